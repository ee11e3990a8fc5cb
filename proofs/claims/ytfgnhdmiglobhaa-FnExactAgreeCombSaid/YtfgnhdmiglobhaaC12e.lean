/-
  Contracts of chapter 12: combinator terms of the program: valid ones, ends, arguments.
-/
import Derived.Test.YtfgnhdmiglobhaaC12c
namespace Go.Proofs.Ytfgnhdmiglobhaa
open Go.RowKit

theorem combFollow_c (a b : Int) (w : World) : Calls Try.prog 87 #[.agg #[.int .i64 a, .int .i64 b]] w fun e w' => e = .returned (.int .i64 (manyC a)) ∧ Below w.heap.size w w' := by
  by_cases h : a = 0
  · subst h
    go_enter Try.func87, Try.ntmps87
    go_wp2_with fail
    go_ret
    exact ⟨rfl, (by have hzz := ((below_size : Below w.heap.size w w)).size; repeat' (first | (with_reducible exact (below_size : Below w.heap.size w w)) | (with_reducible refine Below.alloc ?_ ?_ _) | (with_reducible refine Below.setCell ?_ ?_ _) | (with_reducible refine below_drew ?_) | omega | (simp; done) | (simp; omega)))⟩
  · have g : (a == 0) = false := by simpa using h
    have hm : manyC a = 0 := by rw [manyC, if_neg h]
    rw [hm]
    go_enter Try.func87, Try.ntmps87
    go_wp2_with fail
    go_ret
    exact ⟨rfl, (by have hzz := ((below_size : Below w.heap.size w w)).size; repeat' (first | (with_reducible exact (below_size : Below w.heap.size w w)) | (with_reducible refine Below.alloc ?_ ?_ _) | (with_reducible refine Below.setCell ?_ ?_ _) | (with_reducible refine below_drew ?_) | omega | (simp; done) | (simp; omega)))⟩
set_option maxHeartbeats 1000000 in
theorem termEndComb_c (A : Option Addr) (n cp : Nat) (c : List (Int × Int)) (k : Nat) (z : Int) (w : World) (h : Rd2 w A n c) (hn : n ≤ 1000000000) (hkn : k ≤ n) (hz : resE manyC c k 1 = z) :
    Calls Try.prog 86 #[.slice A n cp, .int .i64 k, .func (.func 87) #[] #[]] w fun e w' => e = .returned (.int .i64 z) ∧ Below w.heap.size w w' := by
  have HL := Lib.hid h.len
  have HZ := Lib.hid hz
  have H := Lib.hid h; clear h hz
  go_enter Try.func86, Try.ntmps86
  go_wp2_with fail
  go_loopw [1, 7] (fun kv ov wr => ∃ j o : Nat, j ≤ n ∧ o ≤ j + 1 ∧ kv = .int .i64 j ∧ ov = .int .i64 o ∧ Hid (resE manyC c j o = z) ∧ Below w.heap.size w wr) (fun kv _ _ => n - (intOf kv).toNat)
  case atStart => exact ⟨k, 1, hkn, by omega, rfl, rfl, HZ.out, below_size⟩
  case round =>
    obtain ⟨j, o, hj, ho, rfl, rfl, hr, hb⟩ := hrel
    have HB := Lib.hid hb
    by_cases ho0 : o = 0
    · subst ho0
      have HR := Lib.hid (show (j : Int) = z by rw [← hr.out, resE_zero])
      clear hr hb
      go_wp2_with fail
      go_ret
      exact ⟨by rw [← HR.out]; rfl, HB.out⟩
    have g0 : decide ((0 : Int) < (o : Int)) = true := by rw [decide_eq_true_eq]; omega
    by_cases hlt : j < n
    · obtain ⟨ad, x, rfl, hab, hx, hc0, hc1⟩ := (H.out.below hb).at_ hlt
      have HR := Lib.hid (show resE manyC c (j + 1) (o - 1 + manyC x.1) = z by rw [← hr.out, show o = o - 1 + 1 by omega, resE_step hx, Nat.add_sub_cancel])
      obtain ⟨t, v⟩ := x
      simp only at hc0 hc1 HR
      clear hr hx hb
      have hm : manyC t ≤ 2 := by unfold manyC; split <;> omega
      obtain ⟨f, hf⟩ : ∃ f, manyC t = f := ⟨_, rfl⟩
      have HC := Lib.hid (show ∀ w, Calls Try.prog 87 #[.agg #[.int .i64 t, .int .i64 v]] w fun e w' => e = .returned (.int .i64 f) ∧ Below w.heap.size w w' from fun w => by rw [← hf]; exact combFollow_c t v w)
      rw [hf] at HR hm
      have v1 : IntKind.i64.wrap ((f : Int) - 1) = (f : Int) - 1 := IntWalk.i64_in _ (by omega)
      have v2 : IntKind.i64.wrap ((o : Int) + ((f : Int) - 1)) = ((o - 1 + f : Nat) : Int) := by rw [IntWalk.i64_in _ (by omega)]; omega
      clear hf
      go_wp2_with (go_at_call 87; refine (HC.out _).mono ?_; rintro e w2 ⟨rfl, hb2⟩)
      go_roundw
      case rel => exact ⟨j + 1, o - 1 + f, by omega, by omega, by go_num, by go_num, HR.out, below_chain HB.out HB.out.size hb2⟩
      case measure => simp [intOf]; omega
    · have HR := Lib.hid (show (-1 : Int) = z by rw [← hr.out, show o = o - 1 + 1 by omega, resE_past (by rw [HL.out]; omega)])
      clear hr hb
      go_wp2_with fail
      go_ret
      exact ⟨by rw [← HR.out]; rfl, HB.out⟩
theorem combEnd_c (A : Option Addr) (n cp : Nat) (c : List (Int × Int)) (k : Nat) (z : Int) (w : World) (h : Rd2 w A n c) (hn : n ≤ 1000000000) (hkn : k ≤ n) (hz : resE manyC c k 1 = z) :
    Calls Try.prog 60 #[.slice A n cp, .int .i64 k] w fun e w' => e = .returned (.int .i64 z) ∧ Below w.heap.size w w' := by
  go_enter Try.func60, Try.ntmps60
  go_wp2_with (go_at_call 86; refine (termEndComb_c _ _ _ c k z _ h hn hkn hz).mono ?_; rintro e w2 ⟨rfl, hb2⟩)
  go_ret
  exact ⟨rfl, hb2⟩
theorem sizeComb_c (A : Option Addr) (n c : Nat) (w : World) (_hn : n ≤ 1000000000000) :
    Calls Try.prog 59 #[.slice A n c] w fun e w' => e = .returned (.int .i64 n) ∧ w = w' := by
  go_enter Try.func59, Try.ntmps59
  go_wp2
  go_ret
  exact ⟨rfl, rfl⟩
set_option maxHeartbeats 2000000 in
set_option maxRecDepth 100000 in
theorem validComb_c (A : Option Addr) (n cp : Nat) (c : List (Int × Int)) (q : Bool) (w : World) (h : Rd2 w A n c) (hn : n ≤ 1000000000) (hq : validC c = q) :
    Calls Try.prog 30 #[.slice A n cp] w fun e w' => e = .returned (.bool q) ∧ Below w.heap.size w w' := by
  have HL := Lib.hid h.len
  have HQ := Lib.hid (show (inB n 1 400 && c.all okC && decide (endP manyC c 1 = some c.length)) = q by rw [← hq, validC, h.len])
  have H := Lib.hid h; clear h hq
  cases hb1 : inB n 1 400
  · have HF := Lib.hid (show false = q by rw [← HQ.out, hb1]; rfl)
    go_enter Try.func30, Try.ntmps30
    go_wp2_with (first | (go_at_call 59; refine (sizeComb_c _ _ _ _ (by omega)).mono ?_; rintro e w' ⟨rfl, rfl⟩) | (go_at_call 43; refine (within_b _ _ _ _ (by assumption) _).mono ?_; rintro e w' ⟨rfl, rfl⟩))
    go_ret
    exact ⟨by rw [← HF.out]; rfl, below_size⟩
  have HF := Lib.hid (show (c.all okC && decide (endP manyC c 1 = some c.length)) = q by rw [← HQ.out, hb1]; rfl)
  have hn1 := inB_t hb1
  clear HQ
  go_enter Try.func30, Try.ntmps30
  go_wp2_with (first | (go_at_call 59; refine (sizeComb_c _ _ _ _ (by omega)).mono ?_; rintro e w' ⟨rfl, rfl⟩) | (go_at_call 43; refine (within_b _ _ _ _ (by assumption) _).mono ?_; rintro e w' ⟨rfl, rfl⟩))
  go_loopw [11] (fun iv wr => ∃ k : Nat, k ≤ n ∧ iv = .int .i64 k ∧ Hid (((c.drop k).all okC && decide (endP manyC c 1 = some c.length)) = q) ∧ Below w.heap.size w wr) (fun iv _ => n - (intOf iv).toNat)
  case atStart => exact ⟨0, by omega, rfl, HF.out, below_size⟩
  case round =>
    obtain ⟨k, hk, rfl, hr, hb⟩ := hrel
    have HB := Lib.hid hb
    by_cases hlt : k < n
    · obtain ⟨ad, x, rfl, hab, hx, hc0, hc1⟩ := (H.out.below hb).at_ hlt
      obtain ⟨p, v⟩ := x
      have HS := Lib.hid (show (okC (p, v) && ((c.drop (k + 1)).all okC && decide (endP manyC c 1 = some c.length))) = q by rw [← hr.out, drop_at hx, List.all_cons, Bool.and_assoc])
      simp only at hc0 hc1
      clear hx hb hr
      have HE := Lib.hid (show ∀ o, Below w.heap.size w (wr.alloc o) from fun o => HB.out.alloc HB.out.size o)
      cases hp : inB p 0 4
      · have HG := Lib.hid (show false = q by rw [← HS.out]; simp [okC, hp])
        go_wp2_with (first | (go_at_call 43; refine (within_b _ _ _ _ (by assumption) _).mono ?_; rintro e w' ⟨rfl, rfl⟩))
        go_ret
        exact ⟨by rw [← HG.out]; rfl, HE.out _⟩
      cases hv : inB v 0 399
      · have HG := Lib.hid (show false = q by rw [← HS.out]; simp [okC, hv])
        go_wp2_with (first | (go_at_call 43; refine (within_b _ _ _ _ (by assumption) _).mono ?_; rintro e w' ⟨rfl, rfl⟩))
        go_ret
        exact ⟨by rw [← HG.out]; rfl, HE.out _⟩
      by_cases h4 : p = 4
      · subst h4
        have HG := Lib.hid (show ((c.drop (k + 1)).all okC && decide (endP manyC c 1 = some c.length)) = q by rw [← HS.out]; simp [okC, hp, hv])
        go_wp2_with (first | (go_at_call 43; refine (within_b _ _ _ _ (by assumption) _).mono ?_; rintro e w' ⟨rfl, rfl⟩))
        go_roundw
        case rel => exact ⟨k + 1, by omega, by go_num, HG.out, HE.out _⟩
        case measure => simp [intOf]; omega
      have g4 : (p != 4) = true := by simpa using h4
      by_cases hv0 : v = 0
      · subst hv0
        have HG := Lib.hid (show ((c.drop (k + 1)).all okC && decide (endP manyC c 1 = some c.length)) = q by rw [← HS.out]; simp [okC, hp, hv])
        go_wp2_with (first | (go_at_call 43; refine (within_b _ _ _ _ (by assumption) _).mono ?_; rintro e w' ⟨rfl, rfl⟩))
        go_roundw
        case rel => exact ⟨k + 1, by omega, by go_num, HG.out, HE.out _⟩
        case measure => simp [intOf]; omega
      · have gv : (v != 0) = true := by simpa using hv0
        have HG := Lib.hid (show false = q by rw [← HS.out]; simp [okC, h4, hv0])
        go_wp2_with (first | (go_at_call 43; refine (within_b _ _ _ _ (by assumption) _).mono ?_; rintro e w' ⟨rfl, rfl⟩))
        go_ret
        exact ⟨by rw [← HG.out]; rfl, HE.out _⟩
    · have HG := Lib.hid (show decide (endP manyC c 1 = some c.length) = q by rw [← hr.out, List.drop_eq_nil_of_le (by rw [HL.out]; omega)]; rfl)
      clear hr hb
      obtain ⟨z, hz⟩ : ∃ z, resE manyC c 0 1 = z := ⟨_, rfl⟩
      have HZ := Lib.hid hz
      have HD := Lib.hid (show (z == (n : Int)) = q by
        rw [← HG.out, ← hz, resE, List.drop_zero, HL.out]
        cases endP manyC c 1 with
        | none =>
          show ((-1 : Int) == (n : Int)) = decide (none = some n)
          rw [show ((-1 : Int) == (n : Int)) = false by simp]; rfl
        | some p =>
          show (((0 + p : Nat) : Int) == (n : Int)) = decide (some p = some n)
          rw [Nat.zero_add]
          by_cases h : p = n
          · subst h; simp
          · rw [show ((p : Int) == (n : Int)) = false by simp; omega]; simp [h])
      have R := Lib.hid (H.out.below HB.out)
      clear hz
      go_wp2_with (go_at_call 60; refine (combEnd_c _ _ _ c 0 z _ R.out hn (by omega) HZ.out).mono ?_; rintro e w2 ⟨rfl, hb2⟩)
      go_ret
      exact ⟨by rw [← HD.out]; rfl, below_chain HB.out HB.out.size hb2⟩
/-- a form with so many arguments does not begin there -/
theorem argumentsNo_c (A : Option Addr) (n cp : Nat) (c : List (Int × Int)) (k : Nat) (kind M : Int) (many : Nat) (w : World) (h : Rd2 w A n c) (hn : n ≤ 1000000000) (hk : k ≤ n) (hf : tryF (c.drop k) kind many = false) (hM : M = (many : Int)) (hm : many ≤ 3) :
    Calls Try.prog 88 #[.slice A n cp, .int .i64 k, .int .i64 kind, .int .i64 M] w fun e w' => e = .returned (.tuple #[.slice none 0 0, .int .i64 (-1)]) ∧ w = w' := by
  subst hM
  have HL := Lib.hid h.len
  have H := Lib.hid h; have HF := Lib.hid hf; clear h hf
  go_enter Try.func88, Try.ntmps88
  go_wp2_with fail
  go_loop [15] (fun iv => ∃ i : Nat, i ≤ many ∧ k + i ≤ n ∧ iv = .int .i64 i ∧ Hid (tryF (c.drop (k + i)) kind (many - i) = false)) (fun iv => many - (intOf iv).toNat)
  case atStart => exact ⟨0, by omega, by omega, rfl, HF.out⟩
  case round =>
    obtain ⟨i, hi, hki, rfl, hr⟩ := hrel
    by_cases hlt : i < many
    · by_cases hn0 : k + i < n
      · obtain ⟨ad, x, rfl, hab, hx, hc0, hc1⟩ := H.out.at_ hn0
        obtain ⟨p, v⟩ := x
        have HS := Lib.hid (show ((p == 0) && tryF (c.drop (k + (i + 1))) kind (many - (i + 1))) = false by rw [← hr.out, drop_at hx, show many - i = many - (i + 1) + 1 by omega]; rfl)
        simp only at hc0 hc1
        clear hx hr
        by_cases h0 : p = 0
        · subst h0
          have HG := Lib.hid (show tryF (c.drop (k + (i + 1))) kind (many - (i + 1)) = false from HS.out)
          go_wp2_with fail
          go_round
          case rel => exact ⟨i + 1, by omega, by omega, by go_num, HG.out⟩
          case measure => simp [intOf]; omega
        · have g0 : (p != 0) = true := by simpa using h0
          go_wp2_with fail
          go_ret2
          exact ⟨rfl, rfl⟩
      · go_wp2_with fail
        go_ret2
        exact ⟨rfl, rfl⟩
    · obtain rfl : i = many := by omega
      have HG := Lib.hid (show tryF (c.drop (k + i)) kind 0 = false by rw [← hr.out, Nat.sub_self])
      clear hr
      by_cases hn0 : k + i < n
      · obtain ⟨ad, x, rfl, hab, hx, hc0, hc1⟩ := H.out.at_ hn0
        obtain ⟨p, v⟩ := x
        have gp : (p != kind) = true := by
          have := HG.out
          rw [drop_at hx] at this
          simpa [tryF] using this
        simp only at hc0 hc1
        go_wp2_with fail
        go_ret2
        exact ⟨rfl, rfl⟩
      · go_wp2_with fail
        go_ret2
        exact ⟨rfl, rfl⟩
end Go.Proofs.Ytfgnhdmiglobhaa
