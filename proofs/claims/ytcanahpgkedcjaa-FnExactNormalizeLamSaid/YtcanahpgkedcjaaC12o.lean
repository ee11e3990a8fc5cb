/-
  Contracts of chapter 12: lambda terms of the reference: one step, the run.
-/
import Derived.Test.YtcanahpgkedcjaaC12n
namespace Go.Proofs.Ytcanahpgkedcjaa
open Go.RowKit

set_option maxHeartbeats 4000000 in
set_option maxRecDepth 100000 in
theorem l12Step_c (A : Option Addr) (n cp : Nat) (c : List (Int × Int)) (k : Nat) (S : List (Int × Int)) (q : Bool) (w : World) (h : Rd2 w A n c) (hnc : n ≤ cp) (hv : validL c = true) (hk : k < n) (hf : redB (c.drop k) = true) (hS : stepL c k = S) (hq : validL S = q) :
    Calls Try.prog 66 #[.slice A n cp, .int .i64 k] w (StepOut S q w) := by
  have hl := h.len
  obtain ⟨hv1, hv2, hv3⟩ := validL_end hv
  rw [hl] at hv2 hv3
  have hSl : S.length ≤ 200000 := by rw [← hS]; exact stepL_len (by omega)
  obtain ⟨p, r, h1, h2, h3, h4, h5, h6, hp1, hr1⟩ := red_parts hv1 hf
  rw [hl] at h6
  obtain ⟨z, hz⟩ : ∃ z, k + 2 + p = z := ⟨_, rfl⟩
  obtain ⟨y, hy⟩ : ∃ y, z + r = y := ⟨_, rfl⟩
  rw [hz] at h2 h4 h5 h6
  rw [hy] at h5 h6
  have hbd : bodyL c k = (c.drop (k + 2)).take p := by rw [bodyL, h2, show z - (k + 2) = p by omega]
  have har : argL c k = (c.drop z).take r := by rw [argL, h2, h5, show y - z = r by omega]
  obtain ⟨M, hM⟩ : ∃ M, openL (argL c k) (bodyL c k) = M := ⟨_, rfl⟩
  have HS := Lib.hid (show c.take k ++ (M ++ c.drop y) = S by rw [← hS, stepL, hM, h2, h5])
  have HM := Lib.hid (show openL ((c.drop z).take r) ((c.drop (k + 2)).take p) = M by rw [← hM, hbd, har])
  have hbl : ((c.drop (k + 2)).take p).length = p := by rw [List.length_take, List.length_drop, hl]; omega
  have hal : ((c.drop z).take r).length = r := by rw [List.length_take, List.length_drop, hl]; omega
  have HVB := Lib.hid (show endP manyL ((c.drop (k + 2)).take p) 1 = some ((c.drop (k + 2)).take p).length by rw [hbl]; exact endP_take h1)
  have HVA := Lib.hid (show endP manyL ((c.drop z).take r) 1 = some ((c.drop z).take r).length by rw [hal]; exact endP_take h4)
  have HOB := Lib.hid (show ∀ x ∈ (c.drop (k + 2)).take p, okL x = true from fun x hx => validL_ok hv x (List.mem_of_mem_drop (List.mem_of_mem_take hx)))
  have HOA := Lib.hid (show ∀ x ∈ (c.drop z).take r, okL x = true from fun x hx => validL_ok hv x (List.mem_of_mem_drop (List.mem_of_mem_take hx)))
  have HE1 := Lib.hid h3; have HE2 := Lib.hid h4
  have HZ1 := Lib.hid (show k + 1 + (p + 1) = z by omega)
  have HY1 := Lib.hid hy
  have HQ := Lib.hid hq; have HL := Lib.hid hl
  obtain ⟨ad, rfl, hab, _⟩ := h.2 (by omega)
  have H := Lib.hid h
  have hkz : k + 2 < z := by omega
  obtain rfl : p = z - (k + 2) := by omega
  obtain rfl : r = y - z := by omega
  have hzy : z < y := by omega
  have hMl : M.length ≤ 200000 := by have h7 := congrArg List.length HS.out; simp at h7; omega
  have HT := Lib.hid (show Rd2 (w.alloc (.cells #[] 62)) (some ad) k (c.take k) from (h.alloc _).upto k (by omega))
  clear h hv hv1 hl hf hS hq h1 h2 h3 h4 h5 hz hy hbd har hM hbl hal
  have v1 : IntKind.i64.wrap ((k : Int) + 1) = ((k + 1 : Nat) : Int) := by rw [IntWalk.i64_in _ (by omega)]; omega
  have v2 : IntKind.i64.wrap ((k : Int) + 2) = ((k + 2 : Nat) : Int) := by rw [IntWalk.i64_in _ (by omega)]; omega
  have hkc : k ≤ cp := by omega
  go_enter Try.func66, Try.ntmps66
  go_wp2_with fail
  refine (l12End_c _ _ _ c (k + 1) (z - (k + 2) + 1) z _ H.out (by omega) HE1.out HZ1.out).mono ?_
  rintro e w' ⟨rfl, rfl⟩
  go_wp2_with fail
  refine (l12End_c _ _ _ c z (y - z) y _ H.out (by omega) HE2.out HY1.out).mono ?_
  rintro e w' ⟨rfl, rfl⟩
  go_wp2_with (at_builtin; refine wp_appLam (by rfl) _ _ (by rfl) w.heap.size (some ⟨w.heap.size, 0, none⟩) 0 0 [] (by rfl) (by exact Own.litK (Nat.le_refl _)) (some ad) k cp (c.take k) (by rfl) (by exact HT.out) (by omega) (by simp) ?_; intro A1 c1 w1 own1 hb1 hk1 hg1 hz1)
  rw [Nat.zero_add, List.nil_append] at own1
  have O1 := Lib.hid own1; have B1 := Lib.hid ((below_size.alloc (Nat.le_refl _) (.cells #[] 62)).trans hb1)
  have hz1 := B1.out.size
  clear own1 hb1 hk1 hg1
  have hzc : z ≤ cp := by omega
  have hyc : y ≤ cp := by omega
  have hk2z : k + 2 ≤ z := by omega
  have hzy' : z ≤ y := by omega
  have hkc2 : k + 2 < cp := by omega
  have hzc2 : z < cp := by omega
  have RB := Lib.hid (show Rd2 w1.drew (some (ad.add ((k + 2) * 2))) (z - (k + 2)) ((c.drop (k + 2)).take (z - (k + 2))) from (H.out.below (below_drew B1.out)).part (k + 2) (z - (k + 2)) (by omega))
  have RA := Lib.hid (show Rd2 w1.drew (some (ad.add (z * 2))) (y - z) ((c.drop z).take (y - z)) from (H.out.below (below_drew B1.out)).part z (y - z) (by omega))
  go_wp2_with fail
  refine Mix.wp_region_mix [0, 0, 0, 0, 0, 0, 0, 0, 0, 0, 1, 2, 0] (fun w' => ∃ x : Ext w1, w' = x.w) (by kernel_rfl) (by kernel_rfl) (InExt.drew _) ?_
  repeat (first | (refine Mix.wpMix_read (by rfl) ?_; go_big_quiet_step (fail); refine wpQuiet_nil ?_) | (refine Mix.wpMix_pure (by rfl) ?_; go_big_quiet_step (fail); refine wpQuiet_nil ?_))
  refine Mix.wpMix_chg (by rfl) (fun K hK => ?_)
  go_wp2_with fail
  refine (l12Open_c (some (ad.add ((k + 2) * 2))) (z - (k + 2)) (cp - (k + 2)) _ (some (ad.add (z * 2))) (y - z) (cp - z) _ M _ RB.out RA.out (by omega) (by omega) HVB.out HVA.out HOB.out HOA.out HM.out).mono ?_
  rintro e w2 ⟨A2, N2, c2, rfl, hw2, hc2, hb2⟩
  have hN2 := len2_of hw2
  have E2 := Lib.hid (below_of_drew hb2)
  have B2 := Lib.hid (below_chain B1.out hz1 (below_of_drew hb2))
  have R2 := Lib.hid (show Rd2 w2 A2 N2 M from hw2.rd)
  have O2 := Lib.hid (O1.out.keep (below_of_drew hb2))
  have hz2 := B2.out.size
  clear hw2 hb2
  go_wp2_with fail
  refine hK _ _ ⟨⟨_, E2.out⟩, rfl⟩ ?_
  clear hK K
  refine Mix.wpMix_tail (by rfl) (fun K hK => ?_)
  refine wp_appLam (by rfl) _ _ (by rfl) w.heap.size A1 k c1 _ (by rfl) (by exact O2.out) A2 N2 c2 M (by rfl) (by exact R2.out) (by omega) hz2 ?_
  intro A3 c3 w3 own3 hb3 hk3 hg3 hz3
  rw [← List.flatMap_append] at own3
  have O3 := Lib.hid own3; have B3 := Lib.hid (B2.out.trans hb3)
  clear own3 hb3 hk3 hg3 hz3
  go_wp2_with fail
  refine hK _ _ ?_
  clear hK K
  repeat (first | (refine Mix.wpMix_read (by rfl) ?_; go_big_quiet_step (fail); refine wpQuiet_nil ?_) | (refine Mix.wpMix_pure (by rfl) ?_; go_big_quiet_step (fail); refine wpQuiet_nil ?_))
  (refine Mix.wpMix_nil ?_; try simp only [Exit.then])
  have hz3 := B3.out.size
  by_cases hyp : y < cp
  · have RT := Lib.hid (show Rd2 w3 (some (ad.add (y * 2))) (n - y) (c.drop y) by
      have h1 := (H.out.below B3.out).part y (n - y) (by omega)
      rwa [List.take_of_length_le (by rw [List.length_drop, HL.out]; exact Nat.le_refl _)] at h1)
    go_wp2_with (first
      | (at_builtin; refine wp_appLam (by rfl) _ _ (by rfl) w.heap.size _ _ _ _ (by rfl) (by exact O3.out) _ _ _ (c.drop y) (by rfl) (by exact RT.out) (by omega) hz3 ?_; intro A4 c4 w4 own4 hb4 hk4 hg4 hz4; rw [← List.flatMap_append, List.append_assoc, HS.out] at own4; have O4 := Lib.hid own4; have B4 := Lib.hid (B3.out.trans hb4); have hm4 := len2_of own4.wrK; have hc4 := own4.cap; clear own4 hb4 hk4 hg4)
      | (go_at_call 32; refine (l12Is_c A4 _ c4 S q w4 O4.out.wrK.rd (by omega) HQ.out).mono ?_; rintro e w5 ⟨rfl, hb5⟩))
    go_ret2
    exact ⟨_, _, _, rfl, (O4.out.wrK.below hb5).wider (Nat.le_refl _) hb5.size, hm4, hc4, below_chain B4.out B4.out.size hb5⟩
  · obtain rfl : y = cp := by omega
    have RT := Lib.hid (show Rd2 w3 (some ad) 0 (c.drop y) by
      rw [List.drop_eq_nil_of_le (by rw [HL.out]; omega)]; exact Rd2.none0)
    go_wp2_with (first
      | (at_builtin; refine wp_appLam (by rfl) _ _ (by rfl) w.heap.size _ _ _ _ (by rfl) (by exact O3.out) _ _ _ (c.drop y) (by rfl) (by exact RT.out) (by omega) hz3 ?_; intro A4 c4 w4 own4 hb4 hk4 hg4 hz4; rw [← List.flatMap_append, List.append_assoc, HS.out] at own4; have O4 := Lib.hid own4; have B4 := Lib.hid (B3.out.trans hb4); have hm4 := len2_of own4.wrK; have hc4 := own4.cap; clear own4 hb4 hk4 hg4)
      | (go_at_call 32; refine (l12Is_c A4 _ c4 S q w4 O4.out.wrK.rd (by omega) HQ.out).mono ?_; rintro e w5 ⟨rfl, hb5⟩))
    go_ret2
    exact ⟨_, _, _, rfl, (O4.out.wrK.below hb5).wider (Nat.le_refl _) hb5.size, hm4, hc4, below_chain B4.out B4.out.size hb5⟩
set_option maxHeartbeats 4000000 in
set_option maxRecDepth 100000 in
theorem l12Run_c (A : Option Addr) (n cp : Nat) (c : List (Int × Int)) (b : Nat) (R : Option (List (Int × Int) × Nat × Bool)) (w : World) (h : Rd2 w A n c) (hv : validL c = true) (hb : b ≤ 100000) (hR : runL b c 0 = R) :
    Calls Try.prog 34 #[.slice A n cp, .int .i64 b] w (RunOut R w) := by
  obtain ⟨hv1, hv2, hv3⟩ := validL_end hv
  have hl := h.len
  obtain ⟨ad, rfl, hab, hcs⟩ := h.2 (by omega)
  have H := Lib.hid h; have HR := Lib.hid hR; have HV := Lib.hid hv; have HL := Lib.hid hl
  rw [hl] at hv2 hv3
  have HC := Lib.hid (show Rd2 (w.alloc (.cells #[] 62)) (some ad) n c from h.alloc _)
  clear h hR hv hcs hl hv1
  go_enter Try.func34, Try.ntmps34
  go_wp2_with (at_builtin; refine wp_appLam (by rfl) _ _ (by rfl) w.heap.size (some ⟨w.heap.size, 0, none⟩) 0 0 [] (by rfl) (by exact Own.litK (Nat.le_refl _)) (some ad) n cp c (by rfl) (by exact HC.out) (by omega) (by simp) ?_; intro A1 c1 w1 own1 hb1 hk1 hg1 hz1)
  rw [Nat.zero_add, List.nil_append] at own1
  have O1 := Lib.hid own1; have B1 := Lib.hid ((below_size.alloc (Nat.le_refl _) (.cells #[] 62)).trans hb1)
  clear own1 hb1 hk1 hg1 hz1
  go_wp2_with fail
  go_loopw [8, 9] (fun tv kv wr => ∃ (k : Nat) (A : Option Addr) (N cc : Nat) (t : List (Int × Int)), k ≤ b ∧ kv = .int .i64 k ∧ tv = .slice A N cc ∧ Hid (Wr wr w.heap.size wr.heap.size A (N * 2) (t.flatMap enc2)) ∧ Hid (t.length = N) ∧ N ≤ cc ∧ Hid (validL t = true) ∧ Hid (runL (b - k) t k = R) ∧ Below w.heap.size w wr) (fun _ kv _ => b - (intOf kv).toNat)
  case atStart => exact ⟨0, A1, n, c1, c, by omega, rfl, by go_num, O1.out.wrK, HL.out, O1.out.cap, HV.out, HR.out, B1.out⟩
  case round =>
    obtain ⟨k, A, N, cc, t, hk, rfl, rfl, hW, hN, hNc, hV, hr, hb⟩ := hrel
    have HB := Lib.hid hb
    have hwz := hb.size
    have hN4 : N ≤ 400 := by have := (validL_end hV.out).2.2; rw [hN.out] at this; exact this
    have RD := Lib.hid (show Rd2 wr A N t from hW.out.rd)
    have HE := Lib.hid (validL_end hV.out).1
    obtain ⟨F, hF⟩ : ∃ F, redL t N 0 = F := ⟨_, rfl⟩
    have HF := Lib.hid hF
    have HS := Lib.hid (show runKL (b - k) t k F = R by rw [← hr.out, runL_eq, hN.out, hF])
    clear hr hF hb
    cases F with
    | none =>
      have HG := Lib.hid (show some (t, k, true) = R from HS.out)
      go_wp2_with (go_at_call 65; refine (l12Redex_c _ _ _ t none _ RD.out (by omega) HF.out).mono ?_; rintro e w' ⟨rfl, rfl⟩)
      ((try simp only [Exit.inBlock, Exit.then]); refine bodyPost_ret (results_tmp4 rfl _ _ _) rfl ?_)
      rw [← HG.out]
      exact ⟨_, _, _, rfl, hW.out, hN.out, hNc, HB.out⟩
    | some j =>
      have hj := redL_some HF.out
      have hjn : j < N := by omega
      have HJ := Lib.hid hj.2.2
      have HG := Lib.hid (show (if b - k = 0 then some (t, k, false) else if validL (stepL t j) then runL (b - k - 1) (stepL t j) (k + 1) else none) = R from HS.out)
      have g0 : decide (((j : Nat) : Int) < 0) = false := decide_eq_false (by omega)
      clear hj HS
      by_cases hkb : k = b
      · subst hkb
        have HG' := Lib.hid (show some (t, k, false) = R by rw [← HG.out, if_pos (by omega)])
        go_wp2_with (go_at_call 65; refine (l12Redex_c _ _ _ t (some j) _ RD.out (by omega) HF.out).mono ?_; rintro e w' ⟨rfl, rfl⟩)
        ((try simp only [Exit.inBlock, Exit.then]); refine bodyPost_ret (results_tmp4 rfl _ _ _) rfl ?_)
        rw [← HG'.out]
        exact ⟨_, _, _, rfl, hW.out, hN.out, hNc, HB.out⟩
      have g1 : ((k : Int) == (b : Int)) = false := by simp; omega
      obtain ⟨S, hS⟩ : ∃ S, stepL t j = S := ⟨_, rfl⟩
      obtain ⟨q, hq⟩ : ∃ q, validL S = q := ⟨_, rfl⟩
      have HSS := Lib.hid hS; have HQ := Lib.hid hq
      have HG' := Lib.hid (show (if q = true then runL (b - (k + 1)) S (k + 1) else none) = R by rw [← HG.out, if_neg (show ¬ b - k = 0 by omega), hS, hq, show b - k - 1 = b - (k + 1) by omega])
      clear hS hq HG
      cases q
      · have HX := Lib.hid (show none = R from HG'.out)
        go_wp2_with (first | (go_at_call 65; refine (l12Redex_c _ _ _ t (some j) _ RD.out (by omega) HF.out).mono ?_; rintro e w' ⟨rfl, rfl⟩) | (go_at_call 66; refine (l12Step_c _ _ _ t j S false _ RD.out hNc hV.out hjn HJ.out HSS.out HQ.out).mono ?_; rintro e w2 ⟨A2, N2, cc2, rfl, hw2, hl2, hc2, hb2⟩))
        have B2 := Lib.hid (below_chain HB.out hwz hb2)
        clear hw2 hl2 hb2
        ((try simp only [Exit.inBlock, Exit.then]); refine bodyPost_ret (results_tmp4 rfl _ _ _) rfl ?_)
        rw [← HX.out]
        exact ⟨rfl, B2.out⟩
      · have HX := Lib.hid (show runL (b - (k + 1)) S (k + 1) = R from HG'.out)
        go_wp2_with (first | (go_at_call 65; refine (l12Redex_c _ _ _ t (some j) _ RD.out (by omega) HF.out).mono ?_; rintro e w' ⟨rfl, rfl⟩) | (go_at_call 66; refine (l12Step_c _ _ _ t j S true _ RD.out hNc hV.out hjn HJ.out HSS.out HQ.out).mono ?_; rintro e w2 ⟨A2, N2, cc2, rfl, hw2, hl2, hc2, hb2⟩))
        have W2 := Lib.hid (hw2.wider hwz (Nat.le_refl _)); have HL2 := Lib.hid hl2; have B2 := Lib.hid (below_chain HB.out hwz hb2)
        clear hw2 hl2 hb2
        go_roundw
        case rel => exact ⟨k + 1, A2, N2, cc2, S, by omega, by go_num, rfl, W2.out, HL2.out, hc2, HQ.out, HX.out, B2.out⟩
        case measure => simp [intOf]; omega
set_option maxHeartbeats 1000000 in
theorem sNormalizeLam_c (A : Option Addr) (n cp : Nat) (c : List (Int × Int)) (b : Int) (w : World) (h : Rd2 w A n c) (hn : n ≤ 1000000000) :
    Calls Try.prog 8 #[.slice A n cp, .int .i64 b] w (RcOut (rcL c b) w) := by
  obtain ⟨R, hR⟩ : ∃ R, rcL c b = R := ⟨_, rfl⟩
  rw [hR]
  have H := Lib.hid h
  cases hv : validL c
  · have HR := Lib.hid (show ([], 0, false, 1) = R by rw [← hR, rcL, if_pos hv])
    have HV := Lib.hid hv; clear hv hR h
    go_enter Try.func8, Try.ntmps8
    go_wp2_with (go_at_call 32; refine (l12Is_c _ _ _ c false _ H.out hn HV.out).mono ?_; rintro e w' ⟨rfl, hb⟩)
    ((try simp only [Exit.inBlock, Exit.then]); refine bodyPost_ret (results_tmp4 rfl _ _ _) rfl ?_)
    rw [← HR.out]
    exact RcOut.bad 1 hb
  cases hb : inB b 1 20000
  · have HR := Lib.hid (show ([], 0, false, 2) = R by rw [← hR, rcL, if_neg (by rw [hv]; simp), if_pos hb])
    have HV := Lib.hid hv; clear hv hR h
    go_enter Try.func8, Try.ntmps8
    go_wp2_with (first | (go_at_call 32; refine (l12Is_c _ _ _ c true _ H.out hn HV.out).mono ?_; rintro e w' ⟨rfl, hb⟩) | (go_at_call 33; refine (l05BudgetC_b _ _ (by assumption) _).mono ?_; rintro e w' ⟨rfl, rfl⟩))
    ((try simp only [Exit.inBlock, Exit.then]); refine bodyPost_ret (results_tmp4 rfl _ _ _) rfl ?_)
    rw [← HR.out]
    exact RcOut.bad 2 hb
  have hb1 := inB_t hb
  obtain ⟨m, rfl⟩ : ∃ m : Nat, b = m := ⟨b.toNat, by omega⟩
  obtain ⟨X, hX⟩ : ∃ X, runL m c 0 = X := ⟨_, rfl⟩
  have HR := Lib.hid (show rcX X = R by rw [← hR, rcL, if_neg (by rw [hv]; simp), if_neg (by rw [hb]; simp), show ((m : Int)).toNat = m by omega, hX])
  have HV := Lib.hid hv; have HX := Lib.hid hX; clear hv hR h hX
  go_enter Try.func8, Try.ntmps8
  go_wp2_with (first | (go_at_call 32; refine (l12Is_c _ _ _ c true _ H.out hn HV.out).mono ?_; rintro e w1 ⟨rfl, hb1⟩) | (go_at_call 33; refine (l05BudgetC_b _ _ (by assumption) _).mono ?_; rintro e w' ⟨rfl, rfl⟩))
  have B1 := Lib.hid hb1
  have R1 := Lib.hid (H.out.below hb1)
  clear hb1
  refine (l12Run_c _ _ cp c m X _ R1.out HV.out (by omega) HX.out).mono ?_
  intro e w2 h2
  have HH := Lib.hid h2
  clear h2
  cases X with
  | none =>
    obtain ⟨he, hb2⟩ := HH.out
    subst he
    have HG := Lib.hid (show ([], 0, false, 5) = R from HR.out)
    have B2 := Lib.hid (below_chain B1.out B1.out.size hb2)
    clear hb2
    go_wp2_with fail
    ((try simp only [Exit.inBlock, Exit.then]); refine bodyPost_ret (results_tmp4 rfl _ _ _) rfl ?_)
    rw [← HG.out]
    exact RcOut.bad 5 B2.out
  | some x =>
    obtain ⟨t, s, q⟩ := x
    obtain ⟨A2, N2, c2, he, hw2, hl2, hc2, hb2⟩ := HH.out
    subst he
    have HG := Lib.hid (show (t, (s : Int), q, (0 : Int)) = R from HR.out)
    have W2 := Lib.hid (hw2.wider B1.out.size (Nat.le_refl _)); have B2 := Lib.hid (below_chain B1.out B1.out.size hb2)
    have hN2 : N2 ≤ 400 := by have := (validL_end (runL_valid HV.out HX.out).1).2.2; rw [hl2] at this; exact this
    clear hw2 hl2 hb2 HH
    go_wp2_with fail
    ((try simp only [Exit.inBlock, Exit.then]); refine bodyPost_ret (results_tmp4 rfl _ _ _) rfl ?_)
    rw [← HG.out]
    exact ⟨_, _, _, rfl, W2.out, by omega, B2.out⟩
end Go.Proofs.Ytcanahpgkedcjaa
