/-
  Contracts of chapter 12: the reference's run of a combinator term.
-/
import Derived.Test.YtfgnhdmiglobhaaC12c
namespace Go.Proofs.Ytfgnhdmiglobhaa
open Go.RowKit

theorem results_tmp4 {fn : Func} {t u v x : Tmp} (h : fn.results = #[.tmp t, .tmp u, .tmp v, .tmp x]) (tmps : Array Value) (P : Program) (w : World) :
    (results fn tmps).run P w = .ok (.tuple #[tmps.getD t undef, tmps.getD u undef, tmps.getD v undef, tmps.getD x undef]) w := by
  simp [results, h]
/-- the run's answer: the term, the steps, whether it is normal, whether all was valid -/
def RunOut (R : Option (List (Int × Int) × Nat × Bool)) (w : World) (e : Ending) (w' : World) : Prop := match R with
  | none => e = .returned (.tuple #[.slice none 0 0, .int .i64 0, .bool false, .bool false]) ∧ Below w.heap.size w w'
  | some (t, s, q) => ∃ A N cap, e = .returned (.tuple #[.slice A N cap, .int .i64 s, .bool q, .bool true]) ∧ Wr w' w.heap.size w'.heap.size A (N * 2) (t.flatMap enc2) ∧ t.length = N ∧ N ≤ cap ∧ Below w.heap.size w w'
theorem l05BudgetC_b (b : Int) (q : Bool) (hq : inB b 1 20000 = q) (w : World) : Calls Try.prog 26 #[.int .i64 b] w fun e w' => e = .returned (.bool q) ∧ w = w' := by
  subst hq
  go_enter Try.func26, Try.ntmps26
  go_wp2_with (go_at_call 38; refine (l00In_c _ _ _ _).mono ?_; rintro e w' ⟨rfl, rfl⟩)
  go_ret
  exact ⟨rfl, rfl⟩
set_option maxHeartbeats 4000000 in
set_option maxRecDepth 100000 in
theorem l12CombRun_c (A : Option Addr) (n cp : Nat) (c : List (Int × Int)) (b : Nat) (R : Option (List (Int × Int) × Nat × Bool)) (w : World) (h : Rd2 w A n c) (hv : validC c = true) (hb : b ≤ 100000) (hR : runC b c 0 = R) :
    Calls Try.prog 27 #[.slice A n cp, .int .i64 b] w (RunOut R w) := by
  obtain ⟨hv1, hv2, hv3⟩ := validC_end hv
  have hl := h.len
  obtain ⟨ad, rfl, hab, hcs⟩ := h.2 (by omega)
  have H := Lib.hid h; have HR := Lib.hid hR; have HV := Lib.hid hv; have HL := Lib.hid hl
  rw [hl] at hv2 hv3
  have HC := Lib.hid (show Rd2 (w.alloc (.cells #[] 50)) (some ad) n c from h.alloc _)
  clear h hR hv hcs hl hv1
  go_enter Try.func27, Try.ntmps27
  go_wp2_with (at_builtin; refine wp_appComb (by rfl) _ _ (by rfl) w.heap.size (some ⟨w.heap.size, 0, none⟩) 0 0 [] (by rfl) (by exact Own.litK (Nat.le_refl _)) (some ad) n cp c (by rfl) (by exact HC.out) (by omega) (by simp) ?_; intro A1 c1 w1 own1 hb1 hk1 hg1 hz1)
  rw [Nat.zero_add, List.nil_append] at own1
  have O1 := Lib.hid own1; have B1 := Lib.hid ((below_size.alloc (Nat.le_refl _) (.cells #[] 50)).trans hb1)
  clear own1 hb1 hk1 hg1 hz1
  go_wp2_with fail
  go_loopw [8, 9] (fun tv kv wr => ∃ (k : Nat) (A : Option Addr) (N cc : Nat) (t : List (Int × Int)), k ≤ b ∧ kv = .int .i64 k ∧ tv = .slice A N cc ∧ Hid (Wr wr w.heap.size wr.heap.size A (N * 2) (t.flatMap enc2)) ∧ Hid (t.length = N) ∧ N ≤ cc ∧ Hid (validC t = true) ∧ Hid (runC (b - k) t k = R) ∧ Below w.heap.size w wr) (fun _ kv _ => b - (intOf kv).toNat)
  case atStart => exact ⟨0, A1, n, c1, c, by omega, rfl, by go_num, O1.out.wrK, HL.out, O1.out.cap, HV.out, HR.out, B1.out⟩
  case round =>
    obtain ⟨k, A, N, cc, t, hk, rfl, rfl, hW, hN, hNc, hV, hr, hb⟩ := hrel
    have HB := Lib.hid hb
    have hwz := hb.size
    have hN4 : N ≤ 400 := by have := (validC_end hV.out).2.2; rw [hN.out] at this; exact this
    have RD := Lib.hid (show Rd2 wr A N t from hW.out.rd)
    have HE := Lib.hid (validC_end hV.out).1
    obtain ⟨F, hF⟩ : ∃ F, firstC t N 0 = F := ⟨_, rfl⟩
    have HF := Lib.hid hF
    have HS := Lib.hid (show runK (b - k) t k F = R by rw [← hr.out, runC_eq, hN.out, hF])
    clear hr hF hb
    cases F with
    | none =>
      have HG := Lib.hid (show some (t, k, true) = R from HS.out)
      go_wp2_with (go_at_call 56; refine (l12CombAt_c _ _ _ t none _ RD.out (by omega) HE.out HF.out).mono ?_; rintro e w' ⟨rfl, rfl⟩)
      ((try simp only [Exit.inBlock, Exit.then]); refine bodyPost_ret (results_tmp4 rfl _ _ _) rfl ?_)
      rw [← HG.out]
      exact ⟨_, _, _, rfl, hW.out, hN.out, hNc, HB.out⟩
    | some j =>
      have hj := firstC_some HF.out
      have hjn : j < N := by omega
      have HJ := Lib.hid hj.2.2
      have HG := Lib.hid (show (if b - k = 0 then some (t, k, false) else if validC (stepC t j) then runC (b - k - 1) (stepC t j) (k + 1) else none) = R from HS.out)
      have g0 : decide (((j : Nat) : Int) < 0) = false := decide_eq_false (by omega)
      clear hj HS
      by_cases hkb : k = b
      · subst hkb
        have HG' := Lib.hid (show some (t, k, false) = R by rw [← HG.out, if_pos (by omega)])
        go_wp2_with (go_at_call 56; refine (l12CombAt_c _ _ _ t (some j) _ RD.out (by omega) HE.out HF.out).mono ?_; rintro e w' ⟨rfl, rfl⟩)
        ((try simp only [Exit.inBlock, Exit.then]); refine bodyPost_ret (results_tmp4 rfl _ _ _) rfl ?_)
        rw [← HG'.out]
        exact ⟨_, _, _, rfl, hW.out, hN.out, hNc, HB.out⟩
      have g1 : ((k : Int) == (b : Int)) = false := by simp; omega
      obtain ⟨S, hS⟩ : ∃ S, stepC t j = S := ⟨_, rfl⟩
      obtain ⟨q, hq⟩ : ∃ q, validC S = q := ⟨_, rfl⟩
      have HSS := Lib.hid hS; have HQ := Lib.hid hq
      have HG' := Lib.hid (show (if q = true then runC (b - (k + 1)) S (k + 1) else none) = R by rw [← HG.out, if_neg (show ¬ b - k = 0 by omega), hS, hq, show b - k - 1 = b - (k + 1) by omega])
      clear hS hq HG
      cases q
      · have HX := Lib.hid (show none = R from HG'.out)
        go_wp2_with (first | (go_at_call 56; refine (l12CombAt_c _ _ _ t (some j) _ RD.out (by omega) HE.out HF.out).mono ?_; rintro e w' ⟨rfl, rfl⟩) | (go_at_call 57; refine (l12CombStep_c _ _ _ t j S false _ RD.out (by omega) (by omega) HE.out hjn HJ.out HSS.out HQ.out).mono ?_; rintro e w2 ⟨A2, N2, cc2, rfl, hw2, hl2, hc2, hb2⟩))
        have B2 := Lib.hid (below_chain HB.out hwz hb2)
        clear hw2 hl2 hb2
        ((try simp only [Exit.inBlock, Exit.then]); refine bodyPost_ret (results_tmp4 rfl _ _ _) rfl ?_)
        rw [← HX.out]
        exact ⟨rfl, B2.out⟩
      · have HX := Lib.hid (show runC (b - (k + 1)) S (k + 1) = R from HG'.out)
        go_wp2_with (first | (go_at_call 56; refine (l12CombAt_c _ _ _ t (some j) _ RD.out (by omega) HE.out HF.out).mono ?_; rintro e w' ⟨rfl, rfl⟩) | (go_at_call 57; refine (l12CombStep_c _ _ _ t j S true _ RD.out (by omega) (by omega) HE.out hjn HJ.out HSS.out HQ.out).mono ?_; rintro e w2 ⟨A2, N2, cc2, rfl, hw2, hl2, hc2, hb2⟩))
        have W2 := Lib.hid (hw2.wider hwz (Nat.le_refl _)); have HL2 := Lib.hid hl2; have B2 := Lib.hid (below_chain HB.out hwz hb2)
        clear hw2 hl2 hb2
        go_roundw
        case rel => exact ⟨k + 1, A2, N2, cc2, S, by omega, by go_num, rfl, W2.out, HL2.out, hc2, HQ.out, HX.out, B2.out⟩
        case measure => simp [intOf]; omega
/-- a term, the steps, whether it is normal, a code -/
def RcOut (R : List (Int × Int) × Int × Bool × Int) (w : World) (e : Ending) (w' : World) : Prop := ∃ A N cap, e = .returned (.tuple #[.slice A N cap, .int .i64 R.2.1, .bool R.2.2.1, .int .i64 R.2.2.2]) ∧ Wr w' w.heap.size w'.heap.size A (N * 2) (R.1.flatMap enc2) ∧ N ≤ 1000000 ∧ Below w.heap.size w w'
theorem RcOut.bad {w w' : World} (k : Int) (h : Below w.heap.size w w') : RcOut ([], 0, false, k) w (.returned (.tuple #[.slice none 0 0, .int .i64 0, .bool false, .int .i64 k])) w' := ⟨none, 0, 0, rfl, Wr.nil, by omega, h⟩
set_option maxHeartbeats 1000000 in
theorem sRunComb_c (A : Option Addr) (n cp : Nat) (c : List (Int × Int)) (b : Int) (w : World) (h : Rd2 w A n c) (hn : n ≤ 1000000000) :
    Calls Try.prog 8 #[.slice A n cp, .int .i64 b] w (RcOut (rcR c b) w) := by
  obtain ⟨R, hR⟩ : ∃ R, rcR c b = R := ⟨_, rfl⟩
  rw [hR]
  have H := Lib.hid h
  cases hv : validC c
  · have HR := Lib.hid (show ([], 0, false, 1) = R by rw [← hR, rcR, if_pos hv])
    have HV := Lib.hid hv; clear hv hR h
    go_enter Try.func8, Try.ntmps8
    go_wp2_with (go_at_call 25; refine (l12Comb_c _ _ _ c false _ H.out hn HV.out).mono ?_; rintro e w' ⟨rfl, hb⟩)
    ((try simp only [Exit.inBlock, Exit.then]); refine bodyPost_ret (results_tmp4 rfl _ _ _) rfl ?_)
    rw [← HR.out]
    exact RcOut.bad 1 hb
  cases hb : inB b 1 20000
  · have HR := Lib.hid (show ([], 0, false, 2) = R by rw [← hR, rcR, if_neg (by rw [hv]; simp), if_pos hb])
    have HV := Lib.hid hv; clear hv hR h
    go_enter Try.func8, Try.ntmps8
    go_wp2_with (first | (go_at_call 25; refine (l12Comb_c _ _ _ c true _ H.out hn HV.out).mono ?_; rintro e w' ⟨rfl, hb⟩) | (go_at_call 26; refine (l05BudgetC_b _ _ (by assumption) _).mono ?_; rintro e w' ⟨rfl, rfl⟩))
    ((try simp only [Exit.inBlock, Exit.then]); refine bodyPost_ret (results_tmp4 rfl _ _ _) rfl ?_)
    rw [← HR.out]
    exact RcOut.bad 2 hb
  have hb1 := inB_t hb
  obtain ⟨m, rfl⟩ : ∃ m : Nat, b = m := ⟨b.toNat, by omega⟩
  obtain ⟨X, hX⟩ : ∃ X, runC m c 0 = X := ⟨_, rfl⟩
  have HR := Lib.hid (show rcX X = R by rw [← hR, rcR, if_neg (by rw [hv]; simp), if_neg (by rw [hb]; simp), show ((m : Int)).toNat = m by omega, hX])
  have HV := Lib.hid hv; have HX := Lib.hid hX; clear hv hR h hX
  go_enter Try.func8, Try.ntmps8
  go_wp2_with (first | (go_at_call 25; refine (l12Comb_c _ _ _ c true _ H.out hn HV.out).mono ?_; rintro e w1 ⟨rfl, hb1⟩) | (go_at_call 26; refine (l05BudgetC_b _ _ (by assumption) _).mono ?_; rintro e w' ⟨rfl, rfl⟩))
  have B1 := Lib.hid hb1
  have R1 := Lib.hid (H.out.below hb1)
  clear hb1
  refine (l12CombRun_c _ _ cp c m X _ R1.out HV.out (by omega) HX.out).mono ?_
  intro e w2 h2
  have HH := Lib.hid h2
  clear h2
  cases X with
  | none =>
    obtain ⟨he, hb2⟩ := HH.out
    subst he
    have HG := Lib.hid (show ([], 0, false, 5) = R from HR.out)
    have B2 := Lib.hid (below_chain B1.out B1.out.size hb2)
    clear hb2
    go_wp2_with fail
    ((try simp only [Exit.inBlock, Exit.then]); refine bodyPost_ret (results_tmp4 rfl _ _ _) rfl ?_)
    rw [← HG.out]
    exact RcOut.bad 5 B2.out
  | some x =>
    obtain ⟨t, s, q⟩ := x
    obtain ⟨A2, N2, c2, he, hw2, hl2, hc2, hb2⟩ := HH.out
    subst he
    have HG := Lib.hid (show (t, (s : Int), q, (0 : Int)) = R from HR.out)
    have W2 := Lib.hid (hw2.wider B1.out.size (Nat.le_refl _)); have B2 := Lib.hid (below_chain B1.out B1.out.size hb2)
    have hN2 : N2 ≤ 400 := by have := (validC_end (runC_valid HV.out HX.out).1).2.2; rw [hl2] at this; exact this
    clear hw2 hl2 hb2 HH
    go_wp2_with fail
    ((try simp only [Exit.inBlock, Exit.then]); refine bodyPost_ret (results_tmp4 rfl _ _ _) rfl ?_)
    rw [← HG.out]
    exact ⟨_, _, _, rfl, W2.out, by omega, B2.out⟩
end Go.Proofs.Ytfgnhdmiglobhaa
