/-
  Contracts of chapter 12: lambda terms of the program: valid ones.
-/
import Derived.Test.YtcanahpgkedcjaaC12o
import Derived.Test.YtcanahpgkedcjaaC05
namespace Go.Proofs.Ytcanahpgkedcjaa
open Go.RowKit

theorem lamFollow_c (a b : Int) (w : World) : Calls Try.prog 101 #[.agg #[.int .i64 a, .int .i64 b]] w fun e w' => e = .returned (.int .i64 (manyL a)) ∧ Below w.heap.size w w' := by
  by_cases h : a = 1
  · subst h
    go_enter Try.func101, Try.ntmps101
    go_wp2_with fail
    go_ret
    exact ⟨rfl, (by have hzz := ((below_size : Below w.heap.size w w)).size; repeat' (first | (with_reducible exact (below_size : Below w.heap.size w w)) | (with_reducible refine Below.alloc ?_ ?_ _) | (with_reducible refine Below.setCell ?_ ?_ _) | (with_reducible refine below_drew ?_) | omega | (simp; done) | (simp; omega)))⟩
  have g : (a == 1) = false := by simpa using h
  by_cases h2 : a = 2
  · subst h2
    go_enter Try.func101, Try.ntmps101
    go_wp2_with fail
    go_ret
    exact ⟨rfl, (by have hzz := ((below_size : Below w.heap.size w w)).size; repeat' (first | (with_reducible exact (below_size : Below w.heap.size w w)) | (with_reducible refine Below.alloc ?_ ?_ _) | (with_reducible refine Below.setCell ?_ ?_ _) | (with_reducible refine below_drew ?_) | omega | (simp; done) | (simp; omega)))⟩
  have g2 : (a == 2) = false := by simpa using h2
  have hm : manyL a = 0 := by rw [manyL, if_neg h, if_neg h2]
  rw [hm]
  clear hm h h2
  go_enter Try.func101, Try.ntmps101
  go_wp2_with fail
  go_ret
  exact ⟨rfl, (by have hzz := ((below_size : Below w.heap.size w w)).size; repeat' (first | (with_reducible exact (below_size : Below w.heap.size w w)) | (with_reducible refine Below.alloc ?_ ?_ _) | (with_reducible refine Below.setCell ?_ ?_ _) | (with_reducible refine below_drew ?_) | omega | (simp; done) | (simp; omega)))⟩
set_option maxHeartbeats 1000000 in
theorem termEndLam_c (A : Option Addr) (n cp : Nat) (c : List (Int × Int)) (k : Nat) (z : Int) (w : World) (h : Rd2 w A n c) (hn : n ≤ 1000000000) (hkn : k ≤ n) (hz : resE manyL c k 1 = z) :
    Calls Try.prog 100 #[.slice A n cp, .int .i64 k, .func (.func 101) #[] #[]] w fun e w' => e = .returned (.int .i64 z) ∧ Below w.heap.size w w' := by
  have HL := Lib.hid h.len
  have HZ := Lib.hid hz
  have H := Lib.hid h; clear h hz
  go_enter Try.func100, Try.ntmps100
  go_wp2_with fail
  go_loopw [1, 7] (fun kv ov wr => ∃ j o : Nat, j ≤ n ∧ o ≤ j + 1 ∧ kv = .int .i64 j ∧ ov = .int .i64 o ∧ Hid (resE manyL c j o = z) ∧ Below w.heap.size w wr) (fun kv _ _ => n - (intOf kv).toNat)
  case atStart => exact ⟨k, 1, hkn, by omega, rfl, rfl, HZ.out, below_size⟩
  case round =>
    obtain ⟨j, o, hj, ho, rfl, rfl, hr, hb⟩ := hrel
    have HB := Lib.hid hb
    by_cases ho0 : o = 0
    · subst ho0
      have HR := Lib.hid (show (j : Int) = z by rw [← hr.out, resE_zero])
      clear hr hb
      go_wp2_with fail
      go_ret
      exact ⟨by rw [← HR.out]; rfl, HB.out⟩
    have g0 : decide ((0 : Int) < (o : Int)) = true := by rw [decide_eq_true_eq]; omega
    by_cases hlt : j < n
    · obtain ⟨ad, x, rfl, hab, hx, hc0, hc1⟩ := (H.out.below hb).at_ hlt
      have HR := Lib.hid (show resE manyL c (j + 1) (o - 1 + manyL x.1) = z by rw [← hr.out, show o = o - 1 + 1 by omega, resE_step hx, Nat.add_sub_cancel])
      obtain ⟨t, v⟩ := x
      simp only at hc0 hc1 HR
      clear hr hx hb
      have hm : manyL t ≤ 2 := manyL_le t
      obtain ⟨f, hf⟩ : ∃ f, manyL t = f := ⟨_, rfl⟩
      have HC := Lib.hid (show ∀ w, Calls Try.prog 101 #[.agg #[.int .i64 t, .int .i64 v]] w fun e w' => e = .returned (.int .i64 f) ∧ Below w.heap.size w w' from fun w => by rw [← hf]; exact lamFollow_c t v w)
      rw [hf] at HR hm
      have v1 : IntKind.i64.wrap ((f : Int) - 1) = (f : Int) - 1 := IntWalk.i64_in _ (by omega)
      have v2 : IntKind.i64.wrap ((o : Int) + ((f : Int) - 1)) = ((o - 1 + f : Nat) : Int) := by rw [IntWalk.i64_in _ (by omega)]; omega
      clear hf
      go_wp2_with (go_at_call 101; refine (HC.out _).mono ?_; rintro e w2 ⟨rfl, hb2⟩)
      go_roundw
      case rel => exact ⟨j + 1, o - 1 + f, by omega, by omega, by go_num, by go_num, HR.out, below_chain HB.out HB.out.size hb2⟩
      case measure => simp [intOf]; omega
    · have HR := Lib.hid (show (-1 : Int) = z by rw [← hr.out, show o = o - 1 + 1 by omega, resE_past (by rw [HL.out]; omega)])
      clear hr hb
      go_wp2_with fail
      go_ret
      exact ⟨by rw [← HR.out]; rfl, HB.out⟩
theorem lamEnd_c (A : Option Addr) (n cp : Nat) (c : List (Int × Int)) (k : Nat) (z : Int) (w : World) (h : Rd2 w A n c) (hn : n ≤ 1000000000) (hkn : k ≤ n) (hz : resE manyL c k 1 = z) :
    Calls Try.prog 72 #[.slice A n cp, .int .i64 k] w fun e w' => e = .returned (.int .i64 z) ∧ Below w.heap.size w w' := by
  go_enter Try.func72, Try.ntmps72
  go_wp2_with (go_at_call 100; refine (termEndLam_c _ _ _ c k z _ h hn hkn hz).mono ?_; rintro e w2 ⟨rfl, hb2⟩)
  go_ret
  exact ⟨rfl, hb2⟩
theorem sizeLam_c (A : Option Addr) (n c : Nat) (w : World) (_hn : n ≤ 1000000000000) :
    Calls Try.prog 68 #[.slice A n c] w fun e w' => e = .returned (.int .i64 n) ∧ w = w' := by
  go_enter Try.func68, Try.ntmps68
  go_wp2
  go_ret
  exact ⟨rfl, rfl⟩
set_option maxRecDepth 100000 in
theorem validLamElement_c (x : Int × Int) (q : Bool) (w : World) (hq : okL x = q) : Calls Try.prog 71 #[.agg #[.int .i64 x.1, .int .i64 x.2]] w fun e w' => e = .returned (.bool q) ∧ Below w.heap.size w w' := by
  obtain ⟨t, v⟩ := x
  have HQ := Lib.hid hq
  clear hq
  by_cases h0 : t = 0
  · subst h0
    have HG := Lib.hid (show inB v 0 399 = q by rw [← HQ.out]; simp [okL, show inB 0 0 2 = true from rfl])
    go_enter Try.func71, Try.ntmps71
    go_wp2_with (go_at_call 62; refine (within_b _ _ _ _ HG.out _).mono ?_; rintro e w' ⟨rfl, rfl⟩)
    go_ret
    exact ⟨rfl, (by have hzz := ((below_size : Below w.heap.size w w)).size; repeat' (first | (with_reducible exact (below_size : Below w.heap.size w w)) | (with_reducible refine Below.alloc ?_ ?_ _) | (with_reducible refine Below.setCell ?_ ?_ _) | (with_reducible refine below_drew ?_) | omega | (simp; done) | (simp; omega)))⟩
  have g0 : (t == 0) = false := by simpa using h0
  by_cases h1 : t = 1
  · subst h1
    have HG := Lib.hid (show (v == 0) = q by rw [← HQ.out]; by_cases hv : v = 0 <;> simp [okL, hv, show inB 1 0 2 = true from rfl])
    have hp : (v == 0) = q := HG.out
    go_enter Try.func71, Try.ntmps71
    go_wp2_with fail
    go_ret
    exact ⟨rfl, (by have hzz := ((below_size : Below w.heap.size w w)).size; repeat' (first | (with_reducible exact (below_size : Below w.heap.size w w)) | (with_reducible refine Below.alloc ?_ ?_ _) | (with_reducible refine Below.setCell ?_ ?_ _) | (with_reducible refine below_drew ?_) | omega | (simp; done) | (simp; omega)))⟩
  have g1 : (t == 1) = false := by simpa using h1
  by_cases h2 : t = 2
  · subst h2
    have HG := Lib.hid (show (v == 0) = q by rw [← HQ.out]; by_cases hv : v = 0 <;> simp [okL, hv, show inB 2 0 2 = true from rfl])
    have hp : (v == 0) = q := HG.out
    go_enter Try.func71, Try.ntmps71
    go_wp2_with fail
    go_ret
    exact ⟨rfl, (by have hzz := ((below_size : Below w.heap.size w w)).size; repeat' (first | (with_reducible exact (below_size : Below w.heap.size w w)) | (with_reducible refine Below.alloc ?_ ?_ _) | (with_reducible refine Below.setCell ?_ ?_ _) | (with_reducible refine below_drew ?_) | omega | (simp; done) | (simp; omega)))⟩
  have g2 : (t == 2) = false := by simpa using h2
  have HG := Lib.hid (show false = q by
    rw [← HQ.out, okL, show inB t 0 2 = false from ?_]; rfl
    cases hb : inB t 0 2 with
    | false => rfl
    | true => have := inB_t hb; omega)
  rw [← HG.out]
  clear h0 h1 h2
  go_enter Try.func71, Try.ntmps71
  go_wp2_with fail
  go_ret
  exact ⟨rfl, (by have hzz := ((below_size : Below w.heap.size w w)).size; repeat' (first | (with_reducible exact (below_size : Below w.heap.size w w)) | (with_reducible refine Below.alloc ?_ ?_ _) | (with_reducible refine Below.setCell ?_ ?_ _) | (with_reducible refine below_drew ?_) | omega | (simp; done) | (simp; omega)))⟩
set_option maxRecDepth 100000 in
theorem validLam1_c (x : Int × Int) (q : Bool) (w : World) (hq : okL x = q) : Calls Try.prog 70 #[.agg #[.int .i64 x.1, .int .i64 x.2]] w fun e w' => e = .returned (.bool (!q)) ∧ Below w.heap.size w w' := by
  have HQ := Lib.hid hq
  clear hq
  go_enter Try.func70, Try.ntmps70
  go_wp2_with (go_at_call 71; refine (validLamElement_c x q _ HQ.out).mono ?_; rintro e w2 ⟨rfl, hb2⟩)
  go_ret
  exact ⟨rfl, below_chain (below_size.alloc (Nat.le_refl _) _) (by simp) hb2⟩
set_option maxHeartbeats 2000000 in
set_option maxRecDepth 100000 in
theorem indexLam_c (A : Option Addr) (n cp : Nat) (xs : List (Int × Int)) (w : World) (h : Rd2 w A n xs) (hn : n ≤ 1000000000) :
    Calls Try.prog 99 #[.slice A n cp, .func (.func 70) #[] #[]] w fun e w' => e = .returned (.int .i64 (firstNot okL 0 xs)) ∧ Below w.heap.size w w' := by
  have HL := Lib.hid h.len
  have H := Lib.hid h; clear h
  go_enter Try.func99, Try.ntmps99
  go_wp2_with fail
  go_loopw [8] (fun iv wr => ∃ k : Nat, k ≤ n ∧ iv = .int .i64 k ∧ Hid (firstNot okL 0 xs = firstNot okL k (xs.drop k)) ∧ Below w.heap.size w wr) (fun iv _ => n - (intOf iv).toNat)
  case atStart => exact ⟨0, by omega, rfl, rfl, below_size⟩
  case round =>
    obtain ⟨k, hk, rfl, hr, hb⟩ := hrel
    have HB := Lib.hid hb
    by_cases hlt : k < n
    · obtain ⟨ad, x, rfl, hab, hx, hc0, hc1⟩ := (H.out.below hb).at_ hlt
      have HS := Lib.hid (show firstNot okL 0 xs = if okL x then firstNot okL (k + 1) (xs.drop (k + 1)) else k by rw [hr.out, drop_at hx, firstNot])
      clear hx hb hr
      cases ho : okL x
      · have HS2 := Lib.hid (show firstNot okL 0 xs = k by rw [HS.out, ho]; rfl)
        have HO := Lib.hid ho
        clear HS ho
        go_wp2_with fail
        refine (validLam1_c x false _ HO.out).mono ?_
        rintro e w1 ⟨rfl, hb1⟩
        have T := Lib.hid (below_chain HB.out HB.out.size hb1); clear hb1
        go_wp2_with fail
        go_ret
        exact ⟨by rw [HS2.out]; rfl, T.out⟩
      · have HS2 := Lib.hid (show firstNot okL 0 xs = firstNot okL (k + 1) (xs.drop (k + 1)) by rw [HS.out, ho]; rfl)
        have HO := Lib.hid ho
        clear HS ho
        go_wp2_with fail
        refine (validLam1_c x true _ HO.out).mono ?_
        rintro e w1 ⟨rfl, hb1⟩
        have T := Lib.hid (below_chain HB.out HB.out.size hb1); clear hb1
        go_wp2_with fail
        go_roundw
        case rel => exact ⟨k + 1, by omega, by go_num, HS2.out, T.out⟩
        case measure => simp [intOf]; omega
    · have HS := Lib.hid (show firstNot okL 0 xs = -1 by rw [hr.out, List.drop_eq_nil_of_le (by rw [HL.out]; omega)]; rfl)
      clear hb hr
      go_wp2_with fail
      go_ret
      exact ⟨by rw [HS.out]; rfl, HB.out⟩
theorem containsLam_c (A : Option Addr) (n cp : Nat) (xs : List (Int × Int)) (q : Bool) (w : World) (h : Rd2 w A n xs) (hn : n ≤ 1000000000) (hq : xs.all okL = q) :
    Calls Try.prog 69 #[.slice A n cp, .func (.func 70) #[] #[]] w fun e w' => e = .returned (.bool (!q)) ∧ Below w.heap.size w w' := by
  have HR := Lib.hid (firstNot_all okL xs 0)
  have HQ := Lib.hid hq
  clear hq
  go_enter Try.func69, Try.ntmps69
  go_wp2_with fail
  refine (indexLam_c A n cp xs _ h hn).mono ?_
  rintro e w1 ⟨rfl, hb⟩
  have T := Lib.hid hb; clear hb
  rw [HQ.out] at HR
  generalize firstNot okL 0 xs = E at *
  go_wp2_with fail
  go_ret
  exact ⟨by rw [← HR.out]; rfl, T.out⟩
set_option maxHeartbeats 2000000 in
set_option maxRecDepth 100000 in
theorem validLam_c (A : Option Addr) (n cp : Nat) (c : List (Int × Int)) (q : Bool) (w : World) (h : Rd2 w A n c) (hn : n ≤ 1000000000) (hq : validL c = q) :
    Calls Try.prog 37 #[.slice A n cp] w fun e w' => e = .returned (.bool q) ∧ Below w.heap.size w w' := by
  have HL := Lib.hid h.len
  have HQ := Lib.hid (show (inB n 1 400 && c.all okL && decide (endP manyL c 1 = some c.length)) = q by rw [← hq, validL, h.len])
  have H := Lib.hid h; clear h hq
  cases hb1 : inB n 1 400
  · have HF := Lib.hid (show false = q by rw [← HQ.out, hb1]; rfl)
    go_enter Try.func37, Try.ntmps37
    go_wp2_with (first | (go_at_call 68; refine (sizeLam_c _ _ _ _ (by omega)).mono ?_; rintro e w' ⟨rfl, rfl⟩) | (go_at_call 62; refine (within_b _ _ _ _ (by assumption) _).mono ?_; rintro e w' ⟨rfl, rfl⟩))
    go_ret
    exact ⟨by rw [← HF.out]; rfl, below_size⟩
  have HF := Lib.hid (show (c.all okL && decide (endP manyL c 1 = some c.length)) = q by rw [← HQ.out, hb1]; rfl)
  have hn1 := inB_t hb1
  clear HQ
  cases ha : c.all okL
  · have HG := Lib.hid (show false = q by rw [← HF.out, ha]; rfl)
    have HA := Lib.hid ha
    clear ha
    go_enter Try.func37, Try.ntmps37
    go_wp2_with (first | (go_at_call 68; refine (sizeLam_c _ _ _ _ (by omega)).mono ?_; rintro e w' ⟨rfl, rfl⟩) | (go_at_call 62; refine (within_b _ _ _ _ (by assumption) _).mono ?_; rintro e w' ⟨rfl, rfl⟩) | (go_at_call 69; refine (containsLam_c A n cp c false _ H.out hn HA.out).mono ?_; rintro e w2 ⟨rfl, hb2⟩))
    go_ret
    exact ⟨by rw [← HG.out]; rfl, hb2⟩
  have HG := Lib.hid (show decide (endP manyL c 1 = some c.length) = q by rw [← HF.out, ha]; rfl)
  have HA := Lib.hid ha
  clear ha HF
  obtain ⟨z, hz⟩ : ∃ z, resE manyL c 0 1 = z := ⟨_, rfl⟩
  have HZ := Lib.hid hz
  have HD := Lib.hid (show (z == (n : Int)) = q by
    rw [← HG.out, ← hz, resE, List.drop_zero, HL.out]
    cases endP manyL c 1 with
    | none =>
      show ((-1 : Int) == (n : Int)) = decide (none = some n)
      rw [show ((-1 : Int) == (n : Int)) = false by simp]; rfl
    | some p =>
      show (((0 + p : Nat) : Int) == (n : Int)) = decide (some p = some n)
      rw [Nat.zero_add]
      by_cases h : p = n
      · subst h; simp
      · rw [show ((p : Int) == (n : Int)) = false by simp; omega]; simp [h])
  clear hz
  go_enter Try.func37, Try.ntmps37
  go_wp2_with (first | (go_at_call 68; refine (sizeLam_c _ _ _ _ (by omega)).mono ?_; rintro e w' ⟨rfl, rfl⟩) | (go_at_call 62; refine (within_b _ _ _ _ (by assumption) _).mono ?_; rintro e w' ⟨rfl, rfl⟩) | (go_at_call 69; refine (containsLam_c A n cp c true _ H.out hn HA.out).mono ?_; rintro e w2 ⟨rfl, hb2⟩; have R2 := Lib.hid (H.out.below hb2)) | (go_at_call 72; refine (lamEnd_c _ _ _ c 0 z _ R2.out hn (by omega) HZ.out).mono ?_; rintro e w3 ⟨rfl, hb3⟩))
  go_ret
  exact ⟨by rw [← HD.out]; rfl, below_chain hb2 hb2.size hb3⟩
end Go.Proofs.Ytcanahpgkedcjaa
