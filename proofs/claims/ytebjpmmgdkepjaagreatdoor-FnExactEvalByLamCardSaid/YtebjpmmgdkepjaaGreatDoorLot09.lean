/-
  Parts of the proof, one behind the other: contracts of the functions that the law reaches, and plain laws.
-/
import Derived.Lib.ItoaLen
import Derived.Lib.Join
import Derived.Test.YtebjpmmgdkepjaaGreatDoorLot03
import Derived.Test.YtebjpmmgdkepjaaGreatDoorLot05
import Derived.Test.YtebjpmmgdkepjaaGreatDoorLot07
import Derived.Test.YtebjpmmgdkepjaaGreatDoorLot08
/-
  Contracts of chapter 12: the reference's run of a combinator term.
-/
namespace Go.Proofs.YtebjpmmgdkepjaaGreatDoor
open Go.RowKit

theorem results_tmp4 {fn : Func} {t u v x : Tmp} (h : fn.results = #[.tmp t, .tmp u, .tmp v, .tmp x]) (tmps : Array Value) (P : Program) (w : World) :
    (results fn tmps).run P w = .ok (.tuple #[tmps.getD t undef, tmps.getD u undef, tmps.getD v undef, tmps.getD x undef]) w := by
  simp [results, h]
/-- the run's answer: the term, the steps, whether it is normal, whether all was valid -/
def RunOut (R : Option (List (Int × Int) × Nat × Bool)) (w : World) (e : Ending) (w' : World) : Prop := match R with
  | none => e = .returned (.tuple #[.slice none 0 0, .int .i64 0, .bool false, .bool false]) ∧ Below w.heap.size w w'
  | some (t, s, q) => ∃ A N cap, e = .returned (.tuple #[.slice A N cap, .int .i64 s, .bool q, .bool true]) ∧ Wr w' w.heap.size w'.heap.size A (N * 2) (t.flatMap enc2) ∧ t.length = N ∧ N ≤ cap ∧ Below w.heap.size w w'
theorem l05BudgetC_b (b : Int) (q : Bool) (hq : inB b 1 20000 = q) (w : World) : Calls Tryz.prog 42 #[.int .i64 b] w fun e w' => e = .returned (.bool q) ∧ w = w' := by
  subst hq
  go_enter Tryz.func42, Tryz.ntmps42
  go_wp2_with (go_at_call 75; refine (l00In_c _ _ _ _).mono ?_; rintro e w' ⟨rfl, rfl⟩)
  go_ret
  exact ⟨rfl, rfl⟩
set_option maxHeartbeats 4000000 in
set_option maxRecDepth 100000 in
theorem l12CombRun_c (A : Option Addr) (n cp : Nat) (c : List (Int × Int)) (b : Nat) (R : Option (List (Int × Int) × Nat × Bool)) (w : World) (h : Rd2 w A n c) (hv : validC c = true) (hb : b ≤ 100000) (hR : runC b c 0 = R) :
    Calls Tryz.prog 92 #[.slice A n cp, .int .i64 b] w (RunOut R w) := by
  obtain ⟨hv1, hv2, hv3⟩ := validC_end hv
  have hl := h.len
  obtain ⟨ad, rfl, hab, hcs⟩ := h.2 (by omega)
  have H := Lib.hid h; have HR := Lib.hid hR; have HV := Lib.hid hv; have HL := Lib.hid hl
  rw [hl] at hv2 hv3
  have HC := Lib.hid (show Rd2 (w.alloc (.cells #[] 100)) (some ad) n c from h.alloc _)
  clear h hR hv hcs hl hv1
  go_enter Tryz.func92, Tryz.ntmps92
  go_wp2_with (at_builtin; refine wp_appComb (by rfl) _ _ (by rfl) w.heap.size (some ⟨w.heap.size, 0, none⟩) 0 0 [] (by rfl) (by exact Own.litK (Nat.le_refl _)) (some ad) n cp c (by rfl) (by exact HC.out) (by omega) (by simp) ?_; intro A1 c1 w1 own1 hb1 hk1 hg1 hz1)
  rw [Nat.zero_add, List.nil_append] at own1
  have O1 := Lib.hid own1; have B1 := Lib.hid ((below_size.alloc (Nat.le_refl _) (.cells #[] 100)).trans hb1)
  clear own1 hb1 hk1 hg1 hz1
  go_wp2_with fail
  go_loopw [8, 9] (fun tv kv wr => ∃ (k : Nat) (A : Option Addr) (N cc : Nat) (t : List (Int × Int)), k ≤ b ∧ kv = .int .i64 k ∧ tv = .slice A N cc ∧ Hid (Wr wr w.heap.size wr.heap.size A (N * 2) (t.flatMap enc2)) ∧ Hid (t.length = N) ∧ N ≤ cc ∧ Hid (validC t = true) ∧ Hid (runC (b - k) t k = R) ∧ Below w.heap.size w wr) (fun _ kv _ => b - (intOf kv).toNat)
  case atStart => exact ⟨0, A1, n, c1, c, by omega, rfl, by go_num, O1.out.wrK, HL.out, O1.out.cap, HV.out, HR.out, B1.out⟩
  case round =>
    obtain ⟨k, A, N, cc, t, hk, rfl, rfl, hW, hN, hNc, hV, hr, hb⟩ := hrel
    have HB := Lib.hid hb
    have hwz := hb.size
    have hN4 : N ≤ 400 := by have := (validC_end hV.out).2.2; rw [hN.out] at this; exact this
    have RD := Lib.hid (show Rd2 wr A N t from hW.out.rd)
    have HE := Lib.hid (validC_end hV.out).1
    obtain ⟨F, hF⟩ : ∃ F, firstC t N 0 = F := ⟨_, rfl⟩
    have HF := Lib.hid hF
    have HS := Lib.hid (show runK (b - k) t k F = R by rw [← hr.out, runC_eq, hN.out, hF])
    clear hr hF hb
    cases F with
    | none =>
      have HG := Lib.hid (show some (t, k, true) = R from HS.out)
      go_wp2_with (go_at_call 133; refine (l12CombAt_c _ _ _ t none _ RD.out (by omega) HE.out HF.out).mono ?_; rintro e w' ⟨rfl, rfl⟩)
      ((try simp only [Exit.inBlock, Exit.then]); refine bodyPost_ret (results_tmp4 rfl _ _ _) rfl ?_)
      rw [← HG.out]
      exact ⟨_, _, _, rfl, hW.out, hN.out, hNc, HB.out⟩
    | some j =>
      have hj := firstC_some HF.out
      have hjn : j < N := by omega
      have HJ := Lib.hid hj.2.2
      have HG := Lib.hid (show (if b - k = 0 then some (t, k, false) else if validC (stepC t j) then runC (b - k - 1) (stepC t j) (k + 1) else none) = R from HS.out)
      have g0 : decide (((j : Nat) : Int) < 0) = false := decide_eq_false (by omega)
      clear hj HS
      by_cases hkb : k = b
      · subst hkb
        have HG' := Lib.hid (show some (t, k, false) = R by rw [← HG.out, if_pos (by omega)])
        go_wp2_with (go_at_call 133; refine (l12CombAt_c _ _ _ t (some j) _ RD.out (by omega) HE.out HF.out).mono ?_; rintro e w' ⟨rfl, rfl⟩)
        ((try simp only [Exit.inBlock, Exit.then]); refine bodyPost_ret (results_tmp4 rfl _ _ _) rfl ?_)
        rw [← HG'.out]
        exact ⟨_, _, _, rfl, hW.out, hN.out, hNc, HB.out⟩
      have g1 : ((k : Int) == (b : Int)) = false := by simp; omega
      obtain ⟨S, hS⟩ : ∃ S, stepC t j = S := ⟨_, rfl⟩
      obtain ⟨q, hq⟩ : ∃ q, validC S = q := ⟨_, rfl⟩
      have HSS := Lib.hid hS; have HQ := Lib.hid hq
      have HG' := Lib.hid (show (if q = true then runC (b - (k + 1)) S (k + 1) else none) = R by rw [← HG.out, if_neg (show ¬ b - k = 0 by omega), hS, hq, show b - k - 1 = b - (k + 1) by omega])
      clear hS hq HG
      cases q
      · have HX := Lib.hid (show none = R from HG'.out)
        go_wp2_with (first | (go_at_call 133; refine (l12CombAt_c _ _ _ t (some j) _ RD.out (by omega) HE.out HF.out).mono ?_; rintro e w' ⟨rfl, rfl⟩) | (go_at_call 134; refine (l12CombStep_c _ _ _ t j S false _ RD.out (by omega) (by omega) HE.out hjn HJ.out HSS.out HQ.out).mono ?_; rintro e w2 ⟨A2, N2, cc2, rfl, hw2, hl2, hc2, hb2⟩))
        have B2 := Lib.hid (below_chain HB.out hwz hb2)
        clear hw2 hl2 hb2
        ((try simp only [Exit.inBlock, Exit.then]); refine bodyPost_ret (results_tmp4 rfl _ _ _) rfl ?_)
        rw [← HX.out]
        exact ⟨rfl, B2.out⟩
      · have HX := Lib.hid (show runC (b - (k + 1)) S (k + 1) = R from HG'.out)
        go_wp2_with (first | (go_at_call 133; refine (l12CombAt_c _ _ _ t (some j) _ RD.out (by omega) HE.out HF.out).mono ?_; rintro e w' ⟨rfl, rfl⟩) | (go_at_call 134; refine (l12CombStep_c _ _ _ t j S true _ RD.out (by omega) (by omega) HE.out hjn HJ.out HSS.out HQ.out).mono ?_; rintro e w2 ⟨A2, N2, cc2, rfl, hw2, hl2, hc2, hb2⟩))
        have W2 := Lib.hid (hw2.wider hwz (Nat.le_refl _)); have HL2 := Lib.hid hl2; have B2 := Lib.hid (below_chain HB.out hwz hb2)
        clear hw2 hl2 hb2
        go_roundw
        case rel => exact ⟨k + 1, A2, N2, cc2, S, by omega, by go_num, rfl, W2.out, HL2.out, hc2, HQ.out, HX.out, B2.out⟩
        case measure => simp [intOf]; omega
/-- a term, the steps, whether it is normal, a code -/
def RcOut (R : List (Int × Int) × Int × Bool × Int) (w : World) (e : Ending) (w' : World) : Prop := ∃ A N cap, e = .returned (.tuple #[.slice A N cap, .int .i64 R.2.1, .bool R.2.2.1, .int .i64 R.2.2.2]) ∧ Wr w' w.heap.size w'.heap.size A (N * 2) (R.1.flatMap enc2) ∧ N ≤ 1000000 ∧ Below w.heap.size w w'
theorem RcOut.bad {w w' : World} (k : Int) (h : Below w.heap.size w w') : RcOut ([], 0, false, k) w (.returned (.tuple #[.slice none 0 0, .int .i64 0, .bool false, .int .i64 k])) w' := ⟨none, 0, 0, rfl, Wr.nil, by omega, h⟩
end Go.Proofs.YtebjpmmgdkepjaaGreatDoor
/-
  Contracts of chapter 12: lambda terms of the reference: the first redex, shifting, substituting, one step, the run.
-/
namespace Go.Proofs.YtebjpmmgdkepjaaGreatDoor
open Go.RowKit

theorem pair_set {M D : List (Int × Int)} {y : Int × Int} {k : Nat} (hk : M.length = k) (v : Int) : ((M ++ y :: D).flatMap enc2).set (k * 2 + 1) (i64 v) = (M ++ (y.1, v) :: D).flatMap enc2 := by
  rw [List.flatMap_append, List.set_append_right _ _ (by rw [flatX_len enc2 2 enc2_len, hk]; omega), flatX_len enc2 2 enc2_len, hk, Nat.add_sub_cancel_left, List.flatMap_cons, List.flatMap_append, List.flatMap_cons]
  rfl
theorem len2_of {w : World} {lo hi m : Nat} {A : Option Addr} {F : List (Int × Int)} (h : Wr w lo hi A (m * 2) (F.flatMap enc2)) : F.length = m := Rd2.len (w := w) (A := A) h.rd
set_option maxHeartbeats 1000000 in
theorem l12Redex_c (A : Option Addr) (n cp : Nat) (c : List (Int × Int)) (F : Option Nat) (w : World) (h : Rd2 w A n c) (hn : n ≤ 1000000000) (hF : redL c n 0 = F) :
    Calls Tryz.prog 80 #[.slice A n cp] w fun e w' => e = .returned (.int .i64 (atI F)) ∧ w = w' := by
  have HL := Lib.hid h.len
  have HF := Lib.hid hF
  have H := Lib.hid h; clear h hF
  go_enter Tryz.func80, Tryz.ntmps80
  go_wp2_with fail
  go_loop [3] (fun kv => ∃ k : Nat, k ≤ n ∧ kv = .int .i64 k ∧ Hid (redL c (n - k) k = F)) (fun kv => n - (intOf kv).toNat)
  case atStart => exact ⟨0, by omega, rfl, HF.out⟩
  case round =>
    obtain ⟨k, hk, rfl, hr⟩ := hrel
    have v1 : IntKind.i64.wrap ((k : Int) + 1) = (k : Int) + 1 := IntWalk.i64_in _ (by omega)
    by_cases hlt : k + 1 < n
    · have g1 : decide ((k : Int) + 1 < (n : Int)) = true := by rw [decide_eq_true_eq]; omega
      obtain ⟨ad, x, rfl, hab, hx, hc0, hc1⟩ := H.out.at_ (k := k) (by omega)
      obtain ⟨ad', y, e, _, hy, hd0, hd1⟩ := H.out.at_ hlt
      injection e with e; subst e
      obtain ⟨p, v⟩ := x; obtain ⟨p', v'⟩ := y
      simp only at hc0 hc1 hd0 hd1
      have HS := Lib.hid (show (if (decide (p = 2) && decide (p' = 1)) = true then some k else redL c (n - (k + 1)) (k + 1)) = F by rw [← hr.out, show n - k = n - (k + 1) + 1 by omega, redL, redB_at hx hy])
      clear hx hy hr
      by_cases h2 : p = 2
      · subst h2
        by_cases h1 : p' = 1
        · subst h1
          have HG := Lib.hid (show some k = F from HS.out)
          go_wp2_with fail
          go_ret
          exact ⟨by rw [← HG.out]; rfl, rfl⟩
        · have g2 : (p' == 1) = false := by simpa using h1
          have HG := Lib.hid (show redL c (n - (k + 1)) (k + 1) = F by rw [← HS.out, if_neg (by simp [h1])])
          go_wp2_with fail
          go_round
          case rel => exact ⟨k + 1, by omega, by go_num, HG.out⟩
          case measure => simp [intOf]; omega
      · have g2 : (p == 2) = false := by simpa using h2
        have HG := Lib.hid (show redL c (n - (k + 1)) (k + 1) = F by rw [← HS.out, if_neg (by simp [h2])])
        go_wp2_with fail
        go_round
        case rel => exact ⟨k + 1, by omega, by go_num, HG.out⟩
        case measure => simp [intOf]; omega
    · have g1 : decide ((k : Int) + 1 < (n : Int)) = false := by rw [decide_eq_false_iff_not]; omega
      have HG := Lib.hid (show none = F by
        rw [← hr.out]
        rcases Nat.eq_zero_or_pos (n - k) with h0 | h0
        · rw [h0]; rfl
        · rw [show n - k = 0 + 1 by omega, redL, redB_last (by rw [HL.out]; omega)]; rfl)
      go_wp2_with fail
      go_ret
      exact ⟨by rw [← HG.out]; rfl, rfl⟩
set_option maxHeartbeats 1000000 in
theorem redexAt_c (A : Option Addr) (n cp : Nat) (c : List (Int × Int)) (F : Option Nat) (w : World) (h : Rd2 w A n c) (hn : n ≤ 1000000000) (hF : redL c n 0 = F) :
    Calls Tryz.prog 63 #[.slice A n cp] w fun e w' => e = .returned (.int .i64 (atI F)) ∧ w = w' := by
  have HL := Lib.hid h.len
  have HF := Lib.hid hF
  have H := Lib.hid h; clear h hF
  go_enter Tryz.func63, Tryz.ntmps63
  go_wp2_with fail
  go_loop [3] (fun kv => ∃ k : Nat, k ≤ n ∧ kv = .int .i64 k ∧ Hid (redL c (n - k) k = F)) (fun kv => n - (intOf kv).toNat)
  case atStart => exact ⟨0, by omega, rfl, HF.out⟩
  case round =>
    obtain ⟨k, hk, rfl, hr⟩ := hrel
    have v1 : IntKind.i64.wrap ((k : Int) + 1) = (k : Int) + 1 := IntWalk.i64_in _ (by omega)
    by_cases hlt : k + 1 < n
    · have g1 : decide ((k : Int) + 1 < (n : Int)) = true := by rw [decide_eq_true_eq]; omega
      obtain ⟨ad, x, rfl, hab, hx, hc0, hc1⟩ := H.out.at_ (k := k) (by omega)
      obtain ⟨ad', y, e, _, hy, hd0, hd1⟩ := H.out.at_ hlt
      injection e with e; subst e
      obtain ⟨p, v⟩ := x; obtain ⟨p', v'⟩ := y
      simp only at hc0 hc1 hd0 hd1
      have HS := Lib.hid (show (if (decide (p = 2) && decide (p' = 1)) = true then some k else redL c (n - (k + 1)) (k + 1)) = F by rw [← hr.out, show n - k = n - (k + 1) + 1 by omega, redL, redB_at hx hy])
      clear hx hy hr
      by_cases h2 : p = 2
      · subst h2
        by_cases h1 : p' = 1
        · subst h1
          have HG := Lib.hid (show some k = F from HS.out)
          go_wp2_with fail
          go_ret
          exact ⟨by rw [← HG.out]; rfl, rfl⟩
        · have g2 : (p' == 1) = false := by simpa using h1
          have HG := Lib.hid (show redL c (n - (k + 1)) (k + 1) = F by rw [← HS.out, if_neg (by simp [h1])])
          go_wp2_with fail
          go_round
          case rel => exact ⟨k + 1, by omega, by go_num, HG.out⟩
          case measure => simp [intOf]; omega
      · have g2 : (p == 2) = false := by simpa using h2
        have HG := Lib.hid (show redL c (n - (k + 1)) (k + 1) = F by rw [← HS.out, if_neg (by simp [h2])])
        go_wp2_with fail
        go_round
        case rel => exact ⟨k + 1, by omega, by go_num, HG.out⟩
        case measure => simp [intOf]; omega
    · have g1 : decide ((k : Int) + 1 < (n : Int)) = false := by rw [decide_eq_false_iff_not]; omega
      have HG := Lib.hid (show none = F by
        rw [← hr.out]
        rcases Nat.eq_zero_or_pos (n - k) with h0 | h0
        · rw [h0]; rfl
        · rw [show n - k = 0 + 1 by omega, redL, redB_last (by rw [HL.out]; omega)]; rfl)
      go_wp2_with fail
      go_ret
      exact ⟨by rw [← HG.out]; rfl, rfl⟩
set_option maxHeartbeats 4000000 in
set_option maxRecDepth 100000 in
theorem l12Shift_c (A : Option Addr) (n cp : Nat) (c : List (Int × Int)) (b : Nat) (S : List (Int × Int)) (w : World) (h : Rd2 w A n c) (hn : n ≤ 1000) (hv : endP manyL c 1 = some c.length) (hok : ∀ x ∈ c, okL x = true) (hb : b ≤ 1000) (hS : shiftL b c = S) :
    Calls Tryz.prog 167 #[.slice A n cp, .int .i64 0, .int .i64 b] w fun e w' => ∃ A' c', e = .returned (.slice A' n c') ∧ Wr w' w.heap.size w'.heap.size A' (n * 2) (S.flatMap enc2) ∧ n ≤ c' ∧ Below w.heap.size w w' := by
  have hl := h.len
  have hdl : (depL c [0]).length = n := by rw [← hl]; exact depL_len hv
  obtain ⟨D, hD⟩ : ∃ D, depL c [0] = D := ⟨_, rfl⟩
  rw [hD] at hdl
  have hDb : ∀ d ∈ D, d ≤ n := fun d hd => by rw [← hD] at hd; have := depL_le (M := 0) (st := [0]) (l := c) (by simp) d hd; omega
  have HSZ := Lib.hid (show List.zipWith (shE b) c D = S by rw [← hS, shiftL_zip, hD])
  have HL := Lib.hid hl; have HDL := Lib.hid hdl; have HDB := Lib.hid hDb; have HV := Lib.hid hv; have HD := Lib.hid hD; have HOK := Lib.hid hok
  have H := Lib.hid h
  have HC := Lib.hid (show Rd2 (w.alloc (.cells #[] 62)) A n c from h.alloc _)
  have hn1 : 1 ≤ n := by rw [← hl]; rcases Nat.eq_zero_or_pos c.length with h0 | h0; (· rw [List.length_eq_zero_iff.1 h0] at hv; cases hv); (· exact h0)
  clear h hv hok hS hl hdl hDb hD
  go_enter Tryz.func167, Tryz.ntmps167
  go_wp2_with (at_builtin; refine wp_appLam (by rfl) _ _ (by rfl) w.heap.size (some ⟨w.heap.size, 0, none⟩) 0 0 [] (by rfl) (by exact Own.litK (Nat.le_refl _)) A n cp c (by rfl) (by exact HC.out) (by omega) (by simp) ?_; intro A1 c1 w1 own1 hb1 hk1 hg1 hz1)
  rw [Nat.zero_add, List.nil_append] at own1
  have O1 := Lib.hid own1; have B1 := Lib.hid ((below_size.alloc (Nat.le_refl _) (.cells #[] 62)).trans hb1)
  have hz1 := B1.out.size
  have hcap1 := own1.cap
  clear own1 hb1 hk1 hg1
  refine (l12Depths_c A n cp c w1 (H.out.below B1.out) hn HV.out).mono ?_
  rw [HD.out]
  rintro e w2 ⟨A2, c2, rfl, hw2, hb2⟩
  have B2 := Lib.hid (below_chain B1.out hz1 hb2)
  have O2 := Lib.hid ((O1.out.keep hb2).wrK)
  have hz2 := hb2.size
  obtain ⟨a1, rfl, _⟩ := O2.out.2 (by omega)
  have O2' := Lib.hid (show Wr w2 w.heap.size w1.heap.size (some a1) (n * 2) (c.flatMap enc2) from O1.out.wrK.below hb2)
  have D2 := Lib.hid (show Wr w2 w1.heap.size w2.heap.size A2 n ((dpI D).map i64) from hw2)
  clear hw2 hb2 O1 O2
  go_wp2_with fail
  go_loopw [9] (fun iv wr => ∃ k : Nat, k ≤ n ∧ iv = .int .i64 k ∧ Hid (Wr wr w.heap.size w1.heap.size (some a1) (n * 2) ((S.take k ++ c.drop k).flatMap enc2)) ∧ Hid (Wr wr w1.heap.size w2.heap.size A2 n ((dpI D).map i64)) ∧ Hid (Below w.heap.size w wr) ∧ w1.heap.size ≤ wr.heap.size) (fun iv _ => n - (intOf iv).toNat)
  case atStart => exact ⟨0, by omega, rfl, by simpa [Hid] using O2'.out, D2.out, B2.out, hz2⟩
  case round =>
    clear O2' D2
    obtain ⟨k, hk, rfl, hW, hDd, hB, hzw⟩ := hrel
    by_cases hlt : k < n
    · obtain ⟨x, hx⟩ : ∃ x, c[k]? = some x := ⟨_, List.getElem?_eq_getElem (by rw [HL.out]; exact hlt)⟩
      obtain ⟨d, hd⟩ : ∃ d, D[k]? = some d := ⟨_, List.getElem?_eq_getElem (by rw [HDL.out]; exact hlt)⟩
      have hdn := HDB.out d (List.mem_of_getElem? hd)
      have hox := okL_cases (HOK.out x (List.mem_of_getElem? hx))
      have hSk : S[k]? = some (shE b x d) := by rw [← HSZ.out, List.getElem?_zipWith, hx, hd]
      have hml : (S.take k).length = k := by rw [List.length_take, ← HSZ.out, List.length_zipWith, HL.out, HDL.out]; omega
      have hW1 := hW.out
      rw [drop_at hx] at hW1
      have hR1 : Rd2 wr (some a1) n (S.take k ++ x :: c.drop (k + 1)) := hW1.rd
      obtain ⟨_, y', e', hab1, hy', hc0, hc1⟩ := hR1.at_ hlt
      injection e' with e'; subst e'
      rw [List.getElem?_append_right (by omega), hml, Nat.sub_self, List.getElem?_cons_zero] at hy'
      injection hy' with hy'; subst hy'
      obtain ⟨_, _, e', hlo, hhi, _, _, _, hf⟩ := hW1.at_ (k := k * 2 + 1) (by omega)
      injection e' with e'; subst e'
      obtain ⟨ag, g, rfl, hag, hg, hcg⟩ := (RdI.at_ (show RdI wr A2 n (dpI D) from hDd.out.rdI) (k := k) hlt)
      have hgd : g = (d : Int) := by
        rw [dpI, List.getElem?_map, hd] at hg
        injection hg with hg; exact hg.symm
      subst hgd
      have a1' : (⟨(a1.add (k * 2)).block, (a1.add (k * 2)).off + 1, none⟩ : Addr) = a1.add (k * 2 + 1) := next_off a1 (k * 2) 0
      obtain ⟨t, v⟩ := x
      simp only at hc0 hc1 hox
      have HA1 := Lib.hid a1'
      have hf2 : wr.frozen? ⟨(a1.add (k * 2)).block, (a1.add (k * 2)).off + 1, none⟩ = false := by rw [a1']; exact hf
      clear a1' hf
      have vd0 : IntKind.i64.wrap ((d : Int) + 0) = (d : Int) := by rw [IntWalk.i64_in _ (by omega)]; omega
      have vd1 : IntKind.i64.wrap (d : Int) = (d : Int) := IntWalk.i64_in _ (by omega)
      have vb : IntKind.i64.wrap (v + (b : Int)) = v + (b : Int) := IntWalk.i64_in _ (by omega)
      have HTK := Lib.hid (show S.take (k + 1) = S.take k ++ [shE b (t, v) d] from take_at hSk)
      have HW1 := Lib.hid hW1
      by_cases hc : t = 0 ∧ (d : Int) ≤ v
      · obtain ⟨h0, hdv⟩ := hc
        subst h0
        have HSE := Lib.hid (show shE b (0, v) d = (0, v + b) by rw [shE, if_pos ⟨rfl, hdv⟩])
        have gd : decide ((d : Int) ≤ v) = true := by rw [decide_eq_true_eq]; exact hdv
        have HWF := Lib.hid (show ((S.take k ++ (0, v) :: c.drop (k + 1)).flatMap enc2).set (k * 2 + 1) (i64 (v + b)) = (S.take (k + 1) ++ c.drop (k + 1)).flatMap enc2 by
          rw [pair_set hml, HTK.out, HSE.out, List.append_assoc]; rfl)
        have hlo' : w.heap.size ≤ (a1.add (k * 2 + 1)).block := by rw [block_add]; exact hlo
        clear hx hd hSk hW1 hW hR1 hg
        go_wp2_with fail
        go_quiet (fail)
        go_wp2_with fail
        rw [HA1.out]
        go_roundw
        case rel =>
          refine ⟨k + 1, by omega, by go_num, ?_, ?_, ?_, ?_⟩
          · have h1 := (HW1.out.below (below_drewN below_size nq)).set (k := k * 2 + 1) (by omega) (i64 (v + b))
            rwa [HWF.out] at h1
          · exact (hDd.out.below (below_drewN below_size nq)).set_far (.inl (by rw [block_add]; exact hhi)) _
          · exact (below_drewN hB.out nq).setCell hlo' _
          · rw [World.size_setCell]; exact hzw
        case measure => simp [intOf]; omega
      · have HSE := Lib.hid (show shE b (t, v) d = (t, v) by rw [shE, if_neg hc])
        have HWF := Lib.hid (show Wr wr w.heap.size w1.heap.size (some a1) (n * 2) ((S.take (k + 1) ++ c.drop (k + 1)).flatMap enc2) by
          have h1 := hW1
          rwa [show S.take k ++ (t, v) :: c.drop (k + 1) = S.take (k + 1) ++ c.drop (k + 1) by rw [HTK.out, HSE.out, List.append_assoc]; rfl] at h1)
        clear hx hd hSk hW1 hW hR1 hg
        by_cases h0 : t = 0
        · subst h0
          have gd : decide ((d : Int) ≤ v) = false := by rw [decide_eq_false_iff_not]; intro h; exact hc ⟨rfl, h⟩
          go_wp2_with fail
          go_quiet (fail)
          go_wp2_with fail
          go_roundw
          case rel => exact ⟨k + 1, by omega, by go_num, HWF.out.below (below_drewN below_size nq), hDd.out.below (below_drewN below_size nq), below_drewN hB.out nq, hzw⟩
          case measure => simp [intOf]; omega
        · have g0 : (t == 0) = false := by simpa using h0
          go_wp2_with fail
          go_quiet (fail)
          go_wp2_with fail
          go_roundw
          case rel => exact ⟨k + 1, by omega, by go_num, HWF.out.below (below_drewN below_size nq), hDd.out.below (below_drewN below_size nq), below_drewN hB.out nq, hzw⟩
          case measure => simp [intOf]; omega
    · obtain rfl : k = n := by omega
      have HSn := Lib.hid (show Wr wr w.heap.size wr.heap.size (some a1) (k * 2) (S.flatMap enc2) by
        have h1 := hW.out
        rw [List.drop_eq_nil_of_le (by rw [HL.out]; exact Nat.le_refl _), List.append_nil, List.take_of_length_le (by rw [← HSZ.out, List.length_zipWith, HL.out, HDL.out]; omega)] at h1
        exact h1.wider (Nat.le_refl _) hzw)
      go_wp2_with fail
      go_ret
      exact ⟨some a1, c1, rfl, HSn.out, hcap1, hB.out⟩
end Go.Proofs.YtebjpmmgdkepjaaGreatDoor
/-
  Functions as terms: the reference's small functions (variables, abstractions, numerals, applications).
-/
namespace Go.Proofs.YtebjpmmgdkepjaaGreatDoor
open Go.RowKit

/-- a list of terms of the call's own -/
def LsOut (L : List LT) (m : Nat) (w : World) (e : Ending) (w' : World) : Prop := ∃ A c ps, e = .returned (.slice A m c) ∧ LmS w' w.heap.size 25 A m c ps ∧ ps.map Tm.t = L ∧ Below w.heap.size w w'
theorem Rd2.lit {w : World} {e : TypeId} {cs : Array Value} {xs : LT} {n : Nat} (hv : cs.toList = xs.flatMap enc2) (hn : xs.length = n) : Rd2 (w.alloc (.cells cs e)) (some ⟨w.heap.size, 0, none⟩) n xs := by
  have hl : cs.size = n * 2 := by rw [← Array.length_toList, hv, flatX_len enc2 2 enc2_len, hn]
  exact (Blk.new w e cs).rd (by rw [hv]; exact List.take_of_length_le (by rw [flatX_len enc2 2 enc2_len, hn]; exact Nat.le_refl _)) (by omega)
theorem Own.litT {w : World} {B : Nat} {e : TypeId} {cs : Array Value} {xs : LT} {n : Nat} (hB : B ≤ w.heap.size) (hv : cs.toList = xs.flatMap enc2) (hn : xs.length = n) (hm : n ≤ 1000000) : Own (w.alloc (.cells cs e)) B e 2 (some ⟨w.heap.size, 0, none⟩) n n (xs.flatMap enc2) :=
  Own.fullK hB hv (by rw [flatX_len enc2 2 enc2_len, hn]) hm
def numP : Nat → LT
  | 0 => []
  | n + 1 => numP n ++ [(2, 0), (0, 1)]
theorem numP_len : ∀ n, (numP n).length = 2 * n
  | 0 => rfl
  | n + 1 => by rw [numP, List.length_append, numP_len n]; simp; omega
theorem numP_front : ∀ n, numP (n + 1) = (2, 0) :: (0, 1) :: numP n
  | 0 => rfl
  | n + 1 => by
    show numP (n + 1) ++ [(2, 0), (0, 1)] = (2, 0) :: (0, 1) :: (numP n ++ [(2, 0), (0, 1)])
    rw [numP_front n]; rfl
theorem numB_pre : ∀ n, numB n = numP n ++ [(0, 0)]
  | 0 => rfl
  | n + 1 => by rw [numB, numB_pre n, numP_front]; rfl
theorem numLm_pre (n : Nat) : numLm n = ([(1, 0), (1, 0)] ++ numP n) ++ [(0, 0)] := by rw [numLm, absLm, numB_pre, List.append_assoc]; rfl
theorem l18Var_c (i : Int) (w : World) : Calls Tryz.prog 120 #[.int .i64 i] w (TmOut (varLm i) 1 w) := by
  go_enter Tryz.func120, Tryz.ntmps120
  go_wp2_with fail
  go_ret
  have O := Own.litT (w := w) (B := w.heap.size) (e := 62) (cs := #[.int .i64 0, .int .i64 i]) (xs := varLm i) (n := 1) (Nat.le_refl _) rfl rfl (by omega)
  exact ⟨_, 1, rfl, rfl, O.wrK, Nat.le_refl _, below_size.alloc (Nat.le_refl _) _⟩
set_option maxHeartbeats 1000000 in
theorem l18Abs_c (n : Nat) (A : Option Addr) (m c : Nat) (t : LT) (w : World) (h : Rd2 w A m t) (hn : n ≤ 1000) (hm : m ≤ 1000000) : Calls Tryz.prog 122 #[.int .i64 n, .slice A m c] w (TmOut (absLm n t) (n + m) w) := by
  have H := Lib.hid h; have hl := h.len
  clear h
  go_enter Tryz.func122, Tryz.ntmps122
  go_wp2_with fail
  go_loopw [5, 0] (fun ov nv wr => ∃ (j oc : Nat) (O : Option Addr), j ≤ n ∧ nv = .int .i64 ((n : Int) - (j : Int)) ∧ ov = .slice O j oc ∧ Hid (Own wr w.heap.size 62 2 O j oc ((List.replicate j ((1 : Int), (0 : Int))).flatMap enc2)) ∧ Below w.heap.size w wr) (fun _ nv _ => (intOf nv).toNat)
  case atStart => exact ⟨0, 0, _, by omega, by simp, rfl, Own.litK (Nat.le_refl _), below_size.alloc (Nat.le_refl _) _⟩
  case round =>
    obtain ⟨j, oc, O, hj, rfl, rfl, hO, hb⟩ := hrel
    have HB := Lib.hid hb
    have hwz := hb.size
    by_cases hlt : j < n
    · have g0 : decide (((n : Int) - (j : Int)) > 0) = true := decide_eq_true (by omega)
      have v1 : IntKind.i64.wrap ((n : Int) - (j : Int) - 1) = (n : Int) - ((j + 1 : Nat) : Int) := by rw [IntWalk.i64_in _ (by omega)]; omega
      clear hb
      go_wp2_with (at_builtin; refine wp_appLam (by rfl) _ _ (by rfl) w.heap.size O j oc _ (by rfl) (by exact hO.out.alloc _) (some ⟨wr.heap.size, 0, none⟩) 1 1 [(1, 0)] (by rfl) (by exact Rd2.lit rfl rfl) (by omega) (by simp; omega) ?_; intro A1 c1 w1 own1 hb1 hk1 hg1 hz1; have E1 := Lib.hid ((HB.out.alloc hwz _).trans hb1); have O1 := Lib.hid own1; clear own1 hb1 hk1 hg1 hz1)
      go_roundw
      case rel => exact ⟨j + 1, c1, A1, by omega, rfl, rfl, by unfold Hid; rw [List.replicate_succ', List.flatMap_append]; exact O1.out, E1.out⟩
      case measure => simp [intOf]; omega
    · obtain rfl : j = n := by omega
      have g0 : decide (((j : Int) - (j : Int)) > 0) = false := decide_eq_false (by omega)
      have H1 := Lib.hid (H.out.below hb)
      clear hb
      go_wp2_with (at_builtin; refine wp_appLam (by rfl) _ _ (by rfl) w.heap.size O j oc _ (by rfl) (by exact hO.out) A m c t (by rfl) (by exact H1.out) (by omega) hwz ?_; intro A1 c1 w1 own1 hb1 hk1 hg1 hz1; have E1 := Lib.hid (HB.out.trans hb1); have O1 := Lib.hid own1; clear own1 hb1 hk1 hg1 hz1)
      go_ret
      refine ⟨A1, c1, rfl, by rw [absLm_len, hl], ?_, O1.out.cap, E1.out⟩
      have h9 := O1.out.wrK
      rw [absLm, List.flatMap_append]
      exact h9
set_option maxHeartbeats 1000000 in
theorem l12Numeral_c (n : Nat) (w : World) (hn : n ≤ 1000) : Calls Tryz.prog 76 #[.int .i64 n] w (TmOut (numLm n) (2 * n + 3) w) := by
  go_enter Tryz.func76, Tryz.ntmps76
  go_wp2_with fail
  go_loopw [3, 0] (fun ov nv wr => ∃ (j p oc : Nat) (O : Option Addr), j ≤ n ∧ p = 2 + 2 * j ∧ nv = .int .i64 ((n : Int) - (j : Int)) ∧ ov = .slice O p oc ∧ Hid (Own wr w.heap.size 62 2 O p oc (([(1, 0), (1, 0)] ++ numP j).flatMap enc2)) ∧ Below w.heap.size w wr) (fun _ nv _ => (intOf nv).toNat)
  case atStart => exact ⟨0, 2, 2, _, by omega, rfl, by simp, rfl, Own.litT (Nat.le_refl _) rfl rfl (by omega), below_size.alloc (Nat.le_refl _) _⟩
  case round =>
    obtain ⟨j, p, oc, O, hj, hp, rfl, rfl, hO, hb⟩ := hrel
    have HB := Lib.hid hb; have HP := Lib.hid hp
    have hpb : p ≤ 10000 := by omega
    have hwz := hb.size
    clear hp
    by_cases hlt : j < n
    · have g0 : decide (((n : Int) - (j : Int)) > 0) = true := decide_eq_true (by omega)
      have v1 : IntKind.i64.wrap ((n : Int) - (j : Int) - 1) = (n : Int) - ((j + 1 : Nat) : Int) := by rw [IntWalk.i64_in _ (by omega)]; omega
      clear hb
      go_wp2_with (at_builtin; refine wp_appLam (by rfl) _ _ (by rfl) w.heap.size O p oc _ (by rfl) (by exact hO.out.alloc _) (some ⟨wr.heap.size, 0, none⟩) 2 2 [(2, 0), (0, 1)] (by rfl) (by exact Rd2.lit rfl rfl) (by omega) (by simp; omega) ?_; intro A1 c1 w1 own1 hb1 hk1 hg1 hz1; have E1 := Lib.hid ((HB.out.alloc hwz _).trans hb1); have O1 := Lib.hid own1; clear own1 hb1 hk1 hg1 hz1)
      go_roundw
      case rel => exact ⟨j + 1, p + 2, c1, A1, by omega, by have := HP.out; omega, rfl, rfl, by unfold Hid; rw [numP, ← List.append_assoc, List.flatMap_append]; exact O1.out, E1.out⟩
      case measure => simp [intOf]; omega
    · obtain rfl : j = n := by omega
      have g0 : decide (((j : Int) - (j : Int)) > 0) = false := decide_eq_false (by omega)
      clear hb
      go_wp2_with (at_builtin; refine wp_appLam (by rfl) _ _ (by rfl) w.heap.size O p oc _ (by rfl) (by exact hO.out.alloc _) (some ⟨wr.heap.size, 0, none⟩) 1 1 [(0, 0)] (by rfl) (by exact Rd2.lit rfl rfl) (by omega) (by simp; omega) ?_; intro A1 c1 w1 own1 hb1 hk1 hg1 hz1; have E1 := Lib.hid ((HB.out.alloc hwz _).trans hb1); have O1 := Lib.hid own1; clear own1 hb1 hk1 hg1 hz1)
      go_ret
      have e2 : p + 1 = 2 * j + 3 := by have := HP.out; omega
      have O2 := O1.out
      rw [e2] at O2
      rw [e2]
      refine ⟨A1, c1, rfl, numLm_len j, ?_, O2.cap, E1.out⟩
      rw [numLm_pre, List.flatMap_append]
      exact O2.wrK
end Go.Proofs.YtebjpmmgdkepjaaGreatDoor
/-
  Texts, first part: plain facts on decimal numerals; the reference's numeral (l01Dec).
-/
namespace Go.Proofs.YtebjpmmgdkepjaaGreatDoor
open Go.RowKit

/-- a text -/
def bs (l : List UInt8) : ByteArray := ⟨l.toArray⟩
theorem bs_add (a b : List UInt8) : bs a ++ bs b = bs (a ++ b) := by
  have h : (bs a ++ bs b).data = (bs (a ++ b)).data := by rw [ByteArray.data_append]; simp [bs]
  exact ByteArray.ext h
theorem bs_size (a : List UInt8) : (bs a).size = a.length := by simp [bs, ByteArray.size]
theorem bs_inj {a b : List UInt8} (h : bs a = bs b) : a = b := by
  have h1 := congrArg (fun t => t.data.toList) h
  simpa [bs] using h1
/-- the decimal digits, none for 0 -/
def dI (u : Nat) : List Int := if _h : u = 0 then [] else dI (u / 10) ++ [48 + ((u % 10 : Nat) : Int)]
termination_by u
decreasing_by omega
theorem dI_zero : dI 0 = [] := by rw [dI]; simp
theorem dI_pos {u : Nat} (h : u ≠ 0) : dI u = dI (u / 10) ++ [48 + ((u % 10 : Nat) : Int)] := by rw [dI, dif_neg h]
theorem dI_text : ∀ u, u ≠ 0 → (dI u).map (fun n => UInt8.ofNat n.toNat) = Lib.decDigits u := by
  intro u
  induction u using Nat.strongRecOn with
  | _ u ih =>
    intro h
    rw [dI_pos h, Lib.decDigits]
    by_cases h1 : u < 10
    · rw [dif_pos h1, show u / 10 = 0 by omega, dI_zero, Nat.mod_eq_of_lt h1]
      simp only [List.nil_append, List.map_cons, List.map_nil]
      congr 2
    · rw [dif_neg h1, List.map_append, ih (u / 10) (by omega) (by omega)]
      simp only [List.map_cons, List.map_nil]
      congr 2
theorem dI_len {u : Nat} (hu : u ≤ 9223372036854775808) : (dI u).length ≤ 20 := by
  by_cases h : u = 0
  · subst h; rw [dI_zero]; simp
  have h1 := Lib.itoa_length_le (-(u : Int)) (by omega) (by omega)
  rw [Lib.itoa_neg u (by omega), ← dI_text u h] at h1
  simp at h1; omega
theorem dI_itoa {n : Int} (h : n ≠ 0) : strOfNums (if n < 0 then 45 :: dI n.natAbs else dI n.natAbs) = bs (Lib.itoa n) := by
  unfold strOfNums bs Lib.itoa
  by_cases h0 : n < 0
  · rw [if_pos h0, if_pos h0, List.map_cons, dI_text _ (by omega)]; rfl
  · rw [if_neg h0, if_neg h0, dI_text _ (by omega), show n.natAbs = n.toNat by omega]
theorem itoa_zero : bs (Lib.itoa 0) = ⟨#[48]⟩ := by
  have : Lib.itoa 0 = Lib.decDigits 0 := rfl
  rw [this, Lib.decDigits, dif_pos (by omega)]; rfl
theorem bytes_rd {w : World} {g n : Nat} {ds : List Int} {lo hi : Nat} (h : Wr w lo hi (some ⟨g, 0, none⟩) n (ds.map (Value.int .u8))) : ∀ i, i < n → w.cell? ⟨g, 0 + i, none⟩ = some (.int .u8 (ds.getD i 0)) := by
  intro i hi
  obtain ⟨_, v, e1, _, _, _, hv, hc, _⟩ := h.at_ hi
  injection e1 with e1; subst e1
  rw [head_add] at hc
  have hl := h.1
  rw [Nat.zero_add, hc, ← hv, List.getElem?_map, List.getD_eq_getElem?_getD, List.getElem?_eq_getElem (by simp at hl; omega)]
  rfl
end Go.Proofs.YtebjpmmgdkepjaaGreatDoor
/-
  Texts, second part: lists of numerals in the reference (l01List, l06Digits, l03Text, l05Digits).
-/
namespace Go.Proofs.YtebjpmmgdkepjaaGreatDoor
open Go.RowKit

def i64s (xs : List Int) : Prop := ∀ x ∈ xs, -9223372036854775808 ≤ x ∧ x ≤ 9223372036854775807
theorem itoa_len {x : Int} (h : -9223372036854775808 ≤ x ∧ x ≤ 9223372036854775807) : (Lib.itoa x).length ≤ 21 := Lib.itoa_length_le x h.1 h.2
theorem join_at (sep : List UInt8) (L : List (List UInt8)) (k : Nat) (y : List UInt8) (h : L[k]? = some y) : Lib.join (L.take (k + 1)) sep = (if 0 < k then Lib.join (L.take k) sep ++ sep else []) ++ y := by
  cases L with
  | nil => simp at h
  | cons x r =>
    cases k with
    | zero => simp at h; subst h; simp [Lib.join_one]
    | succ k =>
      simp at h
      rw [if_pos (by omega), List.take_succ_cons, List.take_succ_cons, Lib.join_cons, Lib.join_cons, Lib.joinTail_take_succ sep r k y h]
      simp
theorem lens_le {b : Nat} : ∀ {L : List (List UInt8)}, (∀ y ∈ L, y.length ≤ b) → Lib.lens L ≤ b * L.length
  | [], _ => by simp [Lib.lens]
  | y :: r, h => by
    have h1 := h y (by simp)
    have h2 := lens_le (L := r) (fun z hz => h z (by simp [hz]))
    simp only [Lib.lens, List.map_cons, List.sum_cons, List.length_cons, Nat.mul_succ] at h2 ⊢
    omega
theorem join_len {b : Nat} (sep : List UInt8) {L : List (List UInt8)} (h : ∀ y ∈ L, y.length ≤ b) : (Lib.join L sep).length ≤ (sep.length + b) * L.length := by
  cases L with
  | nil => simp [Lib.join_nil]
  | cons x r =>
    rw [Lib.join_length]
    have h1 := lens_le h
    rw [Nat.add_mul]
    have h2 : sep.length * r.length ≤ sep.length * (x :: r).length := Nat.mul_le_mul_left _ (by simp)
    omega
/-- a list's text -/
def listT (xs : List Int) : List UInt8 := if xs = [] then [45] else Lib.join (xs.map Lib.itoa) [44]
theorem csv_len {sep : UInt8} {xs : List Int} (h : i64s xs) (k : Nat) : (Lib.join ((xs.map Lib.itoa).take k) [sep]).length ≤ 22 * k := by
  have h1 := join_len [sep] (L := (xs.map Lib.itoa).take k) (b := 21) (fun y hy => by
    obtain ⟨x, hx, rfl⟩ := List.mem_map.1 (List.mem_of_mem_take hy)
    exact itoa_len (h x hx))
  have h2 : ((xs.map Lib.itoa).take k).length ≤ k := by rw [List.length_take]; omega
  have h3 := Nat.mul_le_mul_left ([sep].length + 21) h2
  simp only [List.length_cons, List.length_nil] at h1 h3
  omega
/-- a list of digits as a text -/
def digT (xs : List Int) : List UInt8 := xs.map fun x => UInt8.ofNat (48 + x.toNat)
def wordT (xs : List Int) : List UInt8 := if xs = [] then [45] else digT xs
def dgs (xs : List Int) : Prop := ∀ x ∈ xs, 0 ≤ x ∧ x ≤ 9
theorem itoa_dig {x : Int} (h : 0 ≤ x ∧ x ≤ 9) : Lib.itoa x = [UInt8.ofNat (48 + x.toNat)] := by
  rw [Lib.itoa, if_neg (by omega), Lib.decDigits, dif_pos (by omega)]
theorem digT_at {xs : List Int} {k : Nat} {x : Int} (h : xs[k]? = some x) : digT (xs.take (k + 1)) = digT (xs.take k) ++ [UInt8.ofNat (48 + x.toNat)] := by
  rw [List.take_add_one, h]; simp [digT]
theorem digT_len (xs : List Int) : (digT xs).length = xs.length := by simp [digT]
theorem digT_text {xs : List Int} (h : dgs xs) : strOfNums (xs.map (48 + ·)) = bs (digT xs) := by
  unfold strOfNums bs digT
  rw [List.map_map]
  congr 2
  apply List.map_congr_left
  intro x hx
  have h1 := h x hx
  simp only [Function.comp]
  congr 1
  omega
end Go.Proofs.YtebjpmmgdkepjaaGreatDoor
