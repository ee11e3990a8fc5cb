/-
  Contracts of chapter 18: NumeralOfComb of the program.
-/
import Derived.Test.YtfgnhdmiglobhaaC18e
namespace Go.Proofs.Ytfgnhdmiglobhaa
open Go.RowKit

set_option maxHeartbeats 1000000 in
theorem iNumeralOfComb_c (A : Option Addr) (n cp : Nat) (c : List (Int × Int)) (b : Int) (w : World) (h : Rd2 w A n c) (hn : n ≤ 1000000000) :
    Calls Try.prog 15 #[.slice A n cp, .int .i64 b] w fun e w' => e = .returned (.tuple #[.int .i64 (nuR c b).1, .int .i64 (nuR c b).2.1, .int .i64 (nuR c b).2.2]) ∧ Below w.heap.size w w' := by
  obtain ⟨R, hR⟩ : ∃ R, nuR c b = R := ⟨_, rfl⟩
  rw [hR]
  have H := Lib.hid h
  cases hv : validC c
  · have HR := Lib.hid (show (0, 0, 1) = R by rw [← hR, nuR, if_pos hv])
    have HV := Lib.hid hv; clear hv hR h
    go_enter Try.func15, Try.ntmps15
    go_wp2_with (go_at_call 30; refine (validComb_c _ _ _ c false _ H.out hn HV.out).mono ?_; rintro e w' ⟨rfl, hb⟩)
    go_ret3
    rw [← HR.out]
    exact ⟨rfl, hb⟩
  cases hb : inB b 1 20000
  · have HR := Lib.hid (show (0, 0, 2) = R by rw [← hR, nuR, if_neg (by rw [hv]; simp), if_pos hb])
    have HV := Lib.hid hv; clear hv hR h
    go_enter Try.func15, Try.ntmps15
    go_wp2_with (first | (go_at_call 30; refine (validComb_c _ _ _ c true _ H.out hn HV.out).mono ?_; rintro e w' ⟨rfl, hb'⟩) | (go_at_call 35; refine (budgetOkC_b _ _ (by assumption) _).mono ?_; rintro e w' ⟨rfl, rfl⟩))
    go_ret3
    rw [← HR.out]
    exact ⟨rfl, hb'⟩
  have hb1 := inB_t hb
  obtain ⟨m, rfl⟩ : ∃ m : Nat, b = m := ⟨b.toNat, by omega⟩
  have HBB := Lib.hid hb
  have hl := (validC_end hv).2.2
  rw [h.len] at hl
  obtain ⟨NN, hNN⟩ : ∃ NN, normV (varsC c) = NN := ⟨_, rfl⟩
  have HN := Lib.hid hNN
  cases hh : hasV c
  · have HR := Lib.hid (show nuN c m = R by rw [← hR, nuR, if_neg (by rw [hv]; simp), if_neg (by rw [hb]; simp), if_neg (by rw [hh]; simp), show ((m : Int)).toNat = m by omega])
    have hNl : NN = [] := by rw [← hNN]; exact (normV_nil _).2 ((varsC_nil c).2 hh)
    subst hNl
    have HV := Lib.hid hv; clear hv hR h hh hNN
    go_enter Try.func15, Try.ntmps15
    go_wp2_with (first
      | (go_at_call 30; refine (validComb_c _ _ _ c true _ H.out hn HV.out).mono ?_; rintro e w1 ⟨rfl, hb1'⟩; have R1 := Lib.hid (H.out.below hb1'); have E1 := Lib.hid hb1'; clear hb1')
      | (go_at_call 35; refine (budgetOkC_b _ _ (by assumption) _).mono ?_; rintro e w' ⟨rfl, rfl⟩)
      | (go_at_call 36; refine (combVariables_c _ _ _ c [] _ R1.out (by omega) HN.out).mono ?_; rintro e w2 ⟨A2, c2, rfl, _, _, hb2⟩; have R2 := Lib.hid (R1.out.below hb2); have E2 := Lib.hid (below_chain E1.out E1.out.size hb2); clear hb2)
      | (go_at_call 37; refine (numeralOfComb_c _ _ _ c m R _ R2.out HV.out HBB.out HR.out).mono ?_; rintro e w3 ⟨rfl, hb3⟩))
    go_ret3
    exact ⟨rfl, below_chain E2.out E2.out.size hb3⟩
  · have HR := Lib.hid (show (0, 0, 2) = R by rw [← hR, nuR, if_neg (by rw [hv]; simp), if_neg (by rw [hb]; simp), if_pos hh])
    have hNl : 1 ≤ NN.length := by
      rcases Nat.eq_zero_or_pos NN.length with e | e
      · have := (normV_nil _).1 (by rw [hNN]; exact List.length_eq_zero_iff.1 e)
        rw [varsC_nil, hh] at this; cases this
      · exact e
    obtain ⟨nl, hnl⟩ : ∃ nl, NN.length = nl := ⟨_, rfl⟩
    rw [hnl] at hNl
    have HNL := Lib.hid hnl
    have g1 : decide ((0 : Int) < (nl : Int)) = true := by rw [decide_eq_true_eq]; omega
    have HV := Lib.hid hv; clear hv hR h hh hNN hnl
    go_enter Try.func15, Try.ntmps15
    go_wp2_with (first
      | (go_at_call 30; refine (validComb_c _ _ _ c true _ H.out hn HV.out).mono ?_; rintro e w1 ⟨rfl, hb1'⟩; have R1 := Lib.hid (H.out.below hb1'); have E1 := Lib.hid hb1'; clear hb1')
      | (go_at_call 35; refine (budgetOkC_b _ _ (by assumption) _).mono ?_; rintro e w' ⟨rfl, rfl⟩)
      | (go_at_call 36; refine (combVariables_c _ _ _ c NN _ R1.out (by omega) HN.out).mono ?_; rintro e w2 ⟨A2, c2, he2, _, _, hb2⟩; rw [HNL.out] at he2; subst he2; have E2 := Lib.hid (below_chain E1.out E1.out.size hb2); clear hb2))
    go_ret3
    rw [← HR.out]
    exact ⟨rfl, E2.out⟩
end Go.Proofs.Ytfgnhdmiglobhaa
