/-
  Contracts of chapter 22 (while programs): the program's ValidExpr.
-/
import Derived.Test.YtbpeagnldgefeaaC22b
namespace Go.Proofs.Ytbpeagnldgefeaa
open Go.RowKit

theorem scan_all : ∀ (l : List (Int × Int)) (m : Nat), scanB m l = true → l.all okE = true
  | [], _, _ => rfl
  | x :: l, m, h => by
    simp only [scanB, Bool.and_eq_true] at h
    simp only [List.all_cons, h.2.1, Bool.true_and]
    exact scan_all l _ h.2.2
theorem scan_end : ∀ (l : List (Int × Int)) (m k : Nat), l.all okE = true → (endX m k l == ((k + l.length : Nat) : Int)) = scanB m l
  | [], 0, k, _ => by simp [endX, scanB]
  | [], m + 1, k, _ => by rw [endX, scanB, Bool.eq_iff_iff]; simp
  | x :: l, 0, k, _ => by rw [endX, scanB, Bool.eq_iff_iff]; simp; omega
  | x :: l, m + 1, k, h => by
    simp only [List.all_cons, Bool.and_eq_true] at h
    have := scan_end l (m + manyK x.1) (k + 1) h.2
    rw [endX, scanB, h.1, List.length_cons, show k + (l.length + 1) = k + 1 + l.length by omega, this]
    simp
theorem okE_var {p q : Int} (h : inB q 0 5 = false) : okE (p, q) = false := by
  unfold okE
  by_cases hp : p = 1
  · simp [hp, h]
  · have : q ≠ 0 := by intro e; subst e; simp [inB] at h
    simp [hp, this]

theorem sizeE_c (A : Option Addr) (n c : Nat) (w : World) :
    Calls Try.prog 92 #[.slice A n c] w fun e w' => e = .returned (.int .i64 n) ∧ w = w' := by
  go_enter Try.func92, Try.ntmps92
  go_wp2
  go_ret
  exact ⟨rfl, rfl⟩
theorem isWhileVariable_c (q : Int) (b : Bool) (hb : inB q 0 5 = b) (w : World) : Calls Try.prog 93 #[.int .i64 q] w fun e w' => e = .returned (.bool b) ∧ w = w' := by
  go_enter Try.func93, Try.ntmps93
  go_wp2_with (go_at_call 56; refine (within_b _ _ _ _ hb _).mono ?_; rintro e w' ⟨rfl, rfl⟩)
  go_ret
  exact ⟨rfl, rfl⟩
set_option maxHeartbeats 2000000 in
set_option maxRecDepth 100000 in
theorem iValidExpr_c (A : Option Addr) (n c : Nat) (xs : List (Int × Int)) (w : World) (h : RdE w A n xs) (hn : n ≤ 1000000000000) :
    Calls Try.prog 79 #[.slice A n c] w fun e w' => e = .returned (.bool (exprB xs)) ∧ Below w.heap.size w w' := by
  have HL := Lib.hid h.len
  have H := Lib.hid h; clear h
  cases hs : inB (n : Int) 1 40
  · have HR := Lib.hid (show exprB xs = false by
      unfold exprB
      have := inB_f hs
      simp [HL.out]; omega)
    go_enter Try.func79, Try.ntmps79
    go_wp2_with fail
    refine (sizeE_c _ _ _ _).mono ?_
    rintro e w' ⟨rfl, rfl⟩
    go_wp2_with fail
    refine (within_b _ _ _ _ hs _).mono ?_
    rintro e w' ⟨rfl, rfl⟩
    go_wp2
    go_ret
    exact ⟨by rw [HR.out]; rfl, below_size⟩
  have h12 := inB_t hs
  have HR := Lib.hid (show exprB xs = scanB 1 xs by unfold exprB; rw [HL.out, decide_eq_true (show 1 ≤ n by omega), decide_eq_true (show n ≤ 40 by omega)]; rfl)
  go_enter Try.func79, Try.ntmps79
  go_wp2_with fail
  refine (sizeE_c _ _ _ _).mono ?_
  rintro e w' ⟨rfl, rfl⟩
  go_wp2_with fail
  refine (within_b _ _ _ _ hs _).mono ?_
  rintro e w' ⟨rfl, rfl⟩
  go_wp2
  go_loopw [11] (fun iv wr => ∃ k : Nat, k ≤ n ∧ iv = .int .i64 k ∧ Hid (xs.all okE = (xs.drop k).all okE) ∧ Below w.heap.size w wr) (fun iv _ => n - (intOf iv).toNat)
  case atStart => exact ⟨0, by omega, rfl, rfl, below_size⟩
  case round =>
    obtain ⟨k, hk, rfl, hr, hb⟩ := hrel
    have HB := Lib.hid hb
    by_cases hlt : k < n
    · obtain ⟨ad, x, rfl, hab, hx, hc0, hc1⟩ := (H.out.below hb).at_ hlt
      have HS := Lib.hid (show xs.all okE = (okE x && (xs.drop (k + 1)).all okE) by rw [hr.out, drop_at hx, List.all_cons])
      have HX := Lib.hid (show okE x = false → exprB xs = false by
        intro ho
        rw [HR.out]
        cases hsc : scanB 1 xs
        · rfl
        · have := scan_all _ _ hsc
          rw [HS.out, ho] at this
          exact absurd this (by simp))
      have BB := Lib.hid (HB.out.alloc HB.out.size (.cells #[i64 x.1, i64 x.2] 84))
      obtain ⟨p, q⟩ := x
      clear hx hb
      cases hp : inB p 0 5
      · have HF := Lib.hid (HX.out (by simp [okE, hp]))
        go_wp2_with fail
        refine (within_b _ _ _ _ hp _).mono ?_
        rintro e w' ⟨rfl, rfl⟩
        go_wp2
        go_ret
        exact ⟨by rw [HF.out]; rfl, BB.out⟩
      cases hq : inB q 0 5
      · have HF := Lib.hid (HX.out (okE_var hq))
        go_wp2_with fail
        refine (within_b _ _ _ _ hp _).mono ?_
        rintro e w' ⟨rfl, rfl⟩
        go_wp2_with fail
        refine (isWhileVariable_c _ _ hq _).mono ?_
        rintro e w' ⟨rfl, rfl⟩
        go_wp2
        go_ret
        exact ⟨by rw [HF.out]; rfl, BB.out⟩
      by_cases hp1 : p = 1
      · have e3 : (p != 1) = false := by simpa using hp1
        have HF := Lib.hid (show xs.all okE = (xs.drop (k + 1)).all okE by rw [HS.out]; rw [hp1] at hp ⊢; simp [okE, hp, hq])
        clear hp1
        go_wp2_with fail
        refine (within_b _ _ _ _ hp _).mono ?_
        rintro e w' ⟨rfl, rfl⟩
        go_wp2_with fail
        refine (isWhileVariable_c _ _ hq _).mono ?_
        rintro e w' ⟨rfl, rfl⟩
        go_wp2
        go_roundw
        case rel => exact ⟨k + 1, by omega, by go_num, HF.out, BB.out⟩
        case measure => simp [intOf]; omega
      have e3 : (p != 1) = true := by simpa using hp1
      by_cases hq0 : q = 0
      · have e4 : (q != 0) = false := by simpa using hq0
        have HF := Lib.hid (show xs.all okE = (xs.drop (k + 1)).all okE by rw [HS.out]; simp [okE, hp, hp1, hq0])
        clear hp1 hq0
        go_wp2_with fail
        refine (within_b _ _ _ _ hp _).mono ?_
        rintro e w' ⟨rfl, rfl⟩
        go_wp2_with fail
        refine (isWhileVariable_c _ _ hq _).mono ?_
        rintro e w' ⟨rfl, rfl⟩
        go_wp2
        go_roundw
        case rel => exact ⟨k + 1, by omega, by go_num, HF.out, BB.out⟩
        case measure => simp [intOf]; omega
      · have e4 : (q != 0) = true := by simpa using hq0
        have HF := Lib.hid (HX.out (by simp [okE, hp1, hq0]))
        clear hp1 hq0
        go_wp2_with fail
        refine (within_b _ _ _ _ hp _).mono ?_
        rintro e w' ⟨rfl, rfl⟩
        go_wp2_with fail
        refine (isWhileVariable_c _ _ hq _).mono ?_
        rintro e w' ⟨rfl, rfl⟩
        go_wp2
        go_ret
        exact ⟨by rw [HF.out]; rfl, BB.out⟩
    · have HF := Lib.hid (show exprB xs = (endX 1 0 xs == (n : Int)) by
        have ha : xs.all okE = true := by rw [hr.out, List.drop_eq_nil_of_le (by rw [HL.out]; omega)]; rfl
        have := scan_end xs 1 0 ha
        rw [Nat.zero_add, HL.out] at this
        rw [HR.out, this])
      clear hb
      go_wp2_with fail
      refine (termEndE_c _ _ _ 0 xs _ (by exact H.out.below HB.out) (by omega) (by omega)).mono ?_
      rintro e w1 ⟨rfl, hb1⟩
      rw [List.drop_zero]
      go_wp2
      go_ret
      exact ⟨by rw [HF.out]; rfl, below_chain HB.out HB.out.size hb1⟩
end Go.Proofs.Ytbpeagnldgefeaa
