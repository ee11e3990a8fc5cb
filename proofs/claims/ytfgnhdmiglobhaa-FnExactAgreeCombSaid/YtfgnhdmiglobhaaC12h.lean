/-
  Contracts of chapter 12: the program's step and run of combinator terms.
-/
import Derived.Test.YtfgnhdmiglobhaaC12g
namespace Go.Proofs.Ytfgnhdmiglobhaa
open Go.RowKit

/-- a step's answer -/
def CsOut (c : List (Int × Int)) (F : Option Nat) (w : World) (e : Ending) (w' : World) : Prop := match F with
  | none => e = .returned (.tuple #[.slice none 0 0, .int .i64 6]) ∧ Below w.heap.size w w'
  | some k => if validC (stepC c k) = true then ∃ A N cap, e = .returned (.tuple #[.slice A N cap, .int .i64 0]) ∧ Wr w' w.heap.size w'.heap.size A (N * 2) ((stepC c k).flatMap enc2) ∧ (stepC c k).length = N ∧ N ≤ cap ∧ Below w.heap.size w w'
    else e = .returned (.tuple #[.slice none 0 0, .int .i64 5]) ∧ Below w.heap.size w w'
set_option maxHeartbeats 4000000 in
set_option maxRecDepth 100000 in
theorem combStep_c (ad : Addr) (n cp : Nat) (c : List (Int × Int)) (F : Option Nat) (w : World) (h : Rd2 w (some ad) n c) (hnc : n ≤ cp) (hv : validC c = true) (hF : firstC c n 0 = F) :
    Calls Try.prog 31 #[.slice (some ad) n cp] w (CsOut c F w) := by
  obtain ⟨hv1, hv2, hv3⟩ := validC_end hv
  have hl := h.len
  rw [hl] at hv2 hv3
  have H := Lib.hid h; have HF := Lib.hid hF; have HV := Lib.hid hv; have HV1 := Lib.hid hv1; have HL := Lib.hid hl
  clear h hF hv hv1 hl
  go_enter Try.func31, Try.ntmps31
  go_wp2_with (go_at_call 30; refine (validComb_c _ _ _ c true _ H.out (by omega) HV.out).mono ?_; rintro e w0 ⟨rfl, hb0⟩)
  have B0 := Lib.hid hb0; clear hb0
  go_loopw [13] (fun iv wr => ∃ k : Nat, k ≤ n ∧ iv = .int .i64 k ∧ Hid (firstC c (n - k) k = F) ∧ Below w.heap.size w wr) (fun iv _ => n - (intOf iv).toNat)
  case atStart => exact ⟨0, by omega, rfl, HF.out, B0.out⟩
  case round =>
    obtain ⟨k, hk, rfl, hr, hb⟩ := hrel
    have HB := Lib.hid hb
    have R := Lib.hid (H.out.below hb)
    clear hb
    by_cases hlt : k < n
    · obtain ⟨m, hm⟩ : ∃ m, formC (c.drop k) = m := ⟨_, rfl⟩
      have HS := Lib.hid (show (if 0 < m then some k else firstC c (n - (k + 1)) (k + 1)) = F by rw [← hr.out, show n - k = n - (k + 1) + 1 by omega, firstC, hm])
      have HM := Lib.hid hm
      clear hr
      by_cases h0 : 0 < m
      · have HG := Lib.hid (show some k = F by rw [← HS.out, if_pos h0])
        obtain ⟨z, hz⟩ : ∃ z, endI c (k + m + 1) m = z := ⟨_, rfl⟩
        have HZ := Lib.hid hz
        obtain ⟨S, hS⟩ : ∃ S, stepC c k = S := ⟨_, rfl⟩
        have HSS := Lib.hid (show c.take k ++ byC c k m ++ c.drop z = S by rw [← hS, stepC, hm, hz])
        obtain ⟨q, hq⟩ : ∃ q, validC S = q := ⟨_, rfl⟩
        have HQ := Lib.hid hq
        have HSK := Lib.hid hS
        clear hm hz hS hq HS
        go_wp2_with (go_at_call 61; refine (contractedYes_c ad n cp c k m z _ R.out hv3 hnc HV1.out hlt HM.out h0 HZ.out).mono ?_; rintro e w2 ⟨A2, N2, c2, rfl, hr2, hN2, hzn, hb2⟩)
        have B2 := Lib.hid (below_chain HB.out HB.out.size hb2)
        have R2 := Lib.hid hr2
        clear hb2
        by_cases hzc : z < cp
        · have RZ : ∀ o, Rd2 ((w2.alloc o).drew) (some (ad.add (z * 2))) (n - z) (c.drop z) := fun o => by
            have hx := (H.out.below (below_drew (B2.out.alloc B2.out.size o))).part z (n - z) (by omega)
            rw [List.take_of_length_le (by rw [List.length_drop, HL.out]; exact Nat.le_refl _)] at hx; exact hx
          go_wp2_with fail
          have HRV := Lib.hid (show RdV (w2.alloc (.cells #[.slice (some ad) k cp, .slice A2 N2 c2, .slice (some (ad.add (z * 2))) (n - z) (cp - z)] 24)).drew 2 (some ⟨w2.heap.size, 0, none⟩) 3 [itC (some ad) k cp (c.take k), itC A2 N2 c2 (byC c k m), itC (some (ad.add (z * 2))) (n - z) (cp - z) (c.drop z)] from
            rdVC ((Blk.new _ _ _).drew) (by simp [hdV, itC]) rfl (fun i hi => by
              simp only [List.mem_cons, List.not_mem_nil, or_false] at hi
              rcases hi with rfl | rfl | rfl
              · exact itC_ok ((H.out.below (below_drew (B2.out.alloc B2.out.size _))).upto k (by omega))
              · exact itC_ok (R2.out.below (below_drew (below_size.alloc (Nat.le_refl _) _)))
              · exact itC_ok (RZ _)))
          clear RZ hr2
          refine Mix.wp_region_mix [0, 0, 0, 0, 0, 0, 0, 1, 1, 0] (fun w' => ∃ x : Ext w2, w' = x.w) (by kernel_rfl) (by kernel_rfl) (InExt.drew _) ?_
          repeat (first | (refine Mix.wpMix_read (by rfl) ?_; go_big_quiet_step (fail); refine wpQuiet_nil ?_) | (refine Mix.wpMix_pure (by rfl) ?_; go_big_quiet_step (fail); refine wpQuiet_nil ?_))
          refine Mix.wpMix_chg (by rfl) (fun K hK => ?_)
          go_wp2_with fail
          refine hK _ _ ⟨⟨_, below_drew (below_size.alloc (Nat.le_refl _) _)⟩, rfl⟩ ?_
          clear hK K
          refine Mix.wpMix_chg (by rfl) (fun K hK => ?_)
          go_wp2_with fail
          refine (concatComb_c _ 3 3 _ _ HRV.out (by omega) (by simp [sumV, itC]; omega)).mono ?_
          rintro e w3 ⟨A3, c3, rfl, hw3, hc3, hb3⟩
          obtain ⟨N, hN⟩ : ∃ N, sumV [itC (some ad) k cp (c.take k), itC A2 N2 c2 (byC c k m), itC (some (ad.add (z * 2))) (n - z) (cp - z) (c.drop z)] = N := ⟨_, rfl⟩
          have hNb : N ≤ 3000 := by rw [← hN]; simp [sumV, itC]; omega
          rw [hN] at hw3 hc3
          rw [hN]
          have E3 := Lib.hid (up1 (below_of_drew hb3))
          have B3 := Lib.hid (below_chain B2.out B2.out.size E3.out)
          have W3 := Lib.hid (show Wr w3 w.heap.size w3.heap.size A3 (N * 2) (S.flatMap enc2) by
            rw [← HSS.out]
            have h1 := hw3.wider (lo' := w.heap.size) (hi' := w3.heap.size) (by have := B2.out.size; simp; omega) (Nat.le_refl _)
            simpa [itC, List.flatMap_append, List.append_assoc] using h1)
          have R3 := Lib.hid (show Rd2 w3 A3 N S from W3.out.rd)
          have hsl := R3.out.len
          clear hw3 hb3 hN HRV
          go_wp2_with fail
          refine hK _ _ ⟨⟨_, E3.out⟩, rfl⟩ ?_
          clear hK K
          repeat (first | (refine Mix.wpMix_read (by rfl) ?_; go_big_quiet_step (fail); refine wpQuiet_nil ?_) | (refine Mix.wpMix_pure (by rfl) ?_; go_big_quiet_step (fail); refine wpQuiet_nil ?_))
          (refine Mix.wpMix_nil ?_; try simp only [Exit.then])
          cases q
          · go_wp2_with (go_at_call 30; refine (validComb_c _ _ _ S false _ R3.out (by omega) HQ.out).mono ?_; rintro e w4 ⟨rfl, hb4⟩)
            go_ret2
            rw [← HG.out]
            show if validC (stepC c k) = true then _ else _
            rw [HSK.out, if_neg (by rw [HQ.out]; simp)]
            exact ⟨rfl, below_chain B3.out B3.out.size hb4⟩
          · go_wp2_with (go_at_call 30; refine (validComb_c _ _ _ S true _ R3.out (by omega) HQ.out).mono ?_; rintro e w4 ⟨rfl, hb4⟩)
            go_ret2
            rw [← HG.out]
            show if validC (stepC c k) = true then _ else _
            rw [HSK.out, if_pos HQ.out]
            exact ⟨_, _, _, rfl, (W3.out.below hb4).wider (Nat.le_refl _) hb4.size, hsl, hc3, below_chain B3.out B3.out.size hb4⟩
        · obtain rfl : z = cp := by omega
          have RZ : ∀ o, Rd2 ((w2.alloc o).drew) (some ad) 0 (c.drop z) := fun o => by
            rw [List.drop_eq_nil_of_le (by rw [HL.out]; omega)]; exact Rd2.none0
          go_wp2_with fail
          have HRV := Lib.hid (show RdV (w2.alloc (.cells #[.slice (some ad) k z, .slice A2 N2 c2, .slice (some ad) 0 0] 24)).drew 2 (some ⟨w2.heap.size, 0, none⟩) 3 [itC (some ad) k z (c.take k), itC A2 N2 c2 (byC c k m), itC (some ad) 0 0 (c.drop z)] from
            rdVC ((Blk.new _ _ _).drew) (by simp [hdV, itC]) rfl (fun i hi => by
              simp only [List.mem_cons, List.not_mem_nil, or_false] at hi
              rcases hi with rfl | rfl | rfl
              · exact itC_ok ((H.out.below (below_drew (B2.out.alloc B2.out.size _))).upto k (by omega))
              · exact itC_ok (R2.out.below (below_drew (below_size.alloc (Nat.le_refl _) _)))
              · exact itC_ok (RZ _)))
          clear RZ hr2
          refine Mix.wp_region_mix [0, 0, 0, 0, 0, 0, 0, 1, 1, 0] (fun w' => ∃ x : Ext w2, w' = x.w) (by kernel_rfl) (by kernel_rfl) (InExt.drew _) ?_
          repeat (first | (refine Mix.wpMix_read (by rfl) ?_; go_big_quiet_step (fail); refine wpQuiet_nil ?_) | (refine Mix.wpMix_pure (by rfl) ?_; go_big_quiet_step (fail); refine wpQuiet_nil ?_))
          refine Mix.wpMix_chg (by rfl) (fun K hK => ?_)
          go_wp2_with fail
          refine hK _ _ ⟨⟨_, below_drew (below_size.alloc (Nat.le_refl _) _)⟩, rfl⟩ ?_
          clear hK K
          refine Mix.wpMix_chg (by rfl) (fun K hK => ?_)
          go_wp2_with fail
          refine (concatComb_c _ 3 3 _ _ HRV.out (by omega) (by simp [sumV, itC]; omega)).mono ?_
          rintro e w3 ⟨A3, c3, rfl, hw3, hc3, hb3⟩
          obtain ⟨N, hN⟩ : ∃ N, sumV [itC (some ad) k z (c.take k), itC A2 N2 c2 (byC c k m), itC (some ad) 0 0 (c.drop z)] = N := ⟨_, rfl⟩
          have hNb : N ≤ 3000 := by rw [← hN]; simp [sumV, itC]; omega
          rw [hN] at hw3 hc3
          rw [hN]
          have E3 := Lib.hid (up1 (below_of_drew hb3))
          have B3 := Lib.hid (below_chain B2.out B2.out.size E3.out)
          have W3 := Lib.hid (show Wr w3 w.heap.size w3.heap.size A3 (N * 2) (S.flatMap enc2) by
            rw [← HSS.out]
            have h1 := hw3.wider (lo' := w.heap.size) (hi' := w3.heap.size) (by have := B2.out.size; simp; omega) (Nat.le_refl _)
            simpa [itC, List.flatMap_append, List.append_assoc] using h1)
          have R3 := Lib.hid (show Rd2 w3 A3 N S from W3.out.rd)
          have hsl := R3.out.len
          clear hw3 hb3 hN HRV
          go_wp2_with fail
          refine hK _ _ ⟨⟨_, E3.out⟩, rfl⟩ ?_
          clear hK K
          repeat (first | (refine Mix.wpMix_read (by rfl) ?_; go_big_quiet_step (fail); refine wpQuiet_nil ?_) | (refine Mix.wpMix_pure (by rfl) ?_; go_big_quiet_step (fail); refine wpQuiet_nil ?_))
          (refine Mix.wpMix_nil ?_; try simp only [Exit.then])
          cases q
          · go_wp2_with (go_at_call 30; refine (validComb_c _ _ _ S false _ R3.out (by omega) HQ.out).mono ?_; rintro e w4 ⟨rfl, hb4⟩)
            go_ret2
            rw [← HG.out]
            show if validC (stepC c k) = true then _ else _
            rw [HSK.out, if_neg (by rw [HQ.out]; simp)]
            exact ⟨rfl, below_chain B3.out B3.out.size hb4⟩
          · go_wp2_with (go_at_call 30; refine (validComb_c _ _ _ S true _ R3.out (by omega) HQ.out).mono ?_; rintro e w4 ⟨rfl, hb4⟩)
            go_ret2
            rw [← HG.out]
            show if validC (stepC c k) = true then _ else _
            rw [HSK.out, if_pos HQ.out]
            exact ⟨_, _, _, rfl, (W3.out.below hb4).wider (Nat.le_refl _) hb4.size, hsl, hc3, below_chain B3.out B3.out.size hb4⟩
      · obtain rfl : m = 0 := by omega
        have HG := Lib.hid (show firstC c (n - (k + 1)) (k + 1) = F by rw [← HS.out, if_neg h0])
        clear hm HS
        go_wp2_with (go_at_call 61; refine (contractedNo_c (some ad) n cp c k _ R.out (by omega) hk HM.out).mono ?_; rintro e w2 ⟨rfl, hb2⟩)
        go_roundw
        case rel => exact ⟨k + 1, by omega, by go_num, HG.out, below_chain HB.out HB.out.size hb2⟩
        case measure => simp [intOf]; omega
    · have HG := Lib.hid (show none = F by rw [← hr.out, show n - k = 0 by omega]; rfl)
      clear hr
      go_wp2_with fail
      go_ret2
      rw [← HG.out]
      exact ⟨rfl, HB.out⟩
set_option maxRecDepth 100000 in
theorem cloneComb_c (ad : Addr) (n cp : Nat) (c : List (Int × Int)) (w : World) (h : Rd2 w (some ad) n c) (hn : n ≤ 1000000) :
    Calls Try.prog 58 #[.slice (some ad) n cp] w fun e w' => ∃ A' cap, e = .returned (.slice A' n cap) ∧ Wr w' w.heap.size w'.heap.size A' (n * 2) (c.flatMap enc2) ∧ n ≤ cap ∧ Below w.heap.size w w' := by
  have HC := Lib.hid (show Rd2 (w.alloc (.cells #[] 50)) (some ad) n c from h.alloc _)
  have he : ∀ w, (binOp BinOp.eql 24 (Value.slice (some ad) n cp) (Value.slice none 0 0)).run Try.prog w = .ok (.bool false) w := fun w => by kernel_rfl
  clear h
  go_enter Try.func58, Try.ntmps58
  go_wp2_with (at_builtin; refine wp_appComb (by rfl) _ _ (by rfl) w.heap.size (some ⟨w.heap.size, 0, none⟩) 0 0 [] (by rfl) (by exact Own.litK (Nat.le_refl _)) (some ad) n cp c (by rfl) (by exact HC.out) (by omega) (by simp) ?_; intro A1 c1 w1 own1 hb1 hk1 hg1 hz1)
  rw [Nat.zero_add, List.nil_append] at own1
  have O1 := Lib.hid own1; have B1 := Lib.hid ((below_size.alloc (Nat.le_refl _) (.cells #[] 50)).trans hb1)
  clear own1 hb1 hk1 hg1 hz1
  go_wp2_with fail
  go_ret
  exact ⟨A1, c1, by simp, O1.out.wrK, O1.out.cap, B1.out⟩
theorem budgetOkC_b (b : Int) (q : Bool) (hq : inB b 1 20000 = q) (w : World) : Calls Try.prog 35 #[.int .i64 b] w fun e w' => e = .returned (.bool q) ∧ w = w' := by
  subst hq
  go_enter Try.func35, Try.ntmps35
  go_wp2_with (go_at_call 43; refine (within_c _ _ _ _).mono ?_; rintro e w' ⟨rfl, rfl⟩)
  go_ret
  exact ⟨rfl, rfl⟩
set_option maxHeartbeats 4000000 in
set_option maxRecDepth 100000 in
theorem normalizedComb_c (A : Option Addr) (n cp : Nat) (c : List (Int × Int)) (b : Int) (q : Bool) (R : List (Int × Int) × Int × Bool × Int) (w : World) (h : Rd2 w A n c) (hv : validC c = q) (hR : rcR c b = R) :
    Calls Try.prog 29 #[.slice A n cp, .int .i64 b, .bool q, .func (.func 31) #[] #[]] w (RcOut R w) := by
  cases q
  · have HR := Lib.hid (show ([], 0, false, 1) = R by rw [← hR, rcR, if_pos hv])
    clear hv hR h
    go_enter Try.func29, Try.ntmps29
    go_wp2_with fail
    ((try simp only [Exit.inBlock, Exit.then]); refine bodyPost_ret (results_tmp4 rfl _ _ _) rfl ?_)
    rw [← HR.out]
    exact RcOut.bad 1 below_size
  cases hb : inB b 1 20000
  · have HR := Lib.hid (show ([], 0, false, 2) = R by rw [← hR, rcR, if_neg (by rw [hv]; simp), if_pos hb])
    clear hv hR h
    go_enter Try.func29, Try.ntmps29
    go_wp2_with (go_at_call 35; refine (budgetOkC_b _ _ (by assumption) _).mono ?_; rintro e w' ⟨rfl, rfl⟩)
    ((try simp only [Exit.inBlock, Exit.then]); refine bodyPost_ret (results_tmp4 rfl _ _ _) rfl ?_)
    rw [← HR.out]
    exact RcOut.bad 2 below_size
  have hb1 := inB_t hb
  obtain ⟨m, rfl⟩ : ∃ m : Nat, b = m := ⟨b.toNat, by omega⟩
  obtain ⟨hv1, hv2, hv3⟩ := validC_end hv
  have hl := h.len
  rw [hl] at hv2 hv3
  obtain ⟨ad, rfl, hab, _⟩ := h.2 (by omega)
  have HR := Lib.hid (show rcX (runC m c 0) = R by rw [← hR, rcR, if_neg (by rw [hv]; simp), if_neg (by rw [hb]; simp), show ((m : Int)).toNat = m by omega])
  have HV := Lib.hid hv; have H := Lib.hid h; have HL := Lib.hid hl
  clear hv hR h hv1 hl
  go_enter Try.func29, Try.ntmps29
  go_wp2_with (first | (go_at_call 35; refine (budgetOkC_b _ _ (by assumption) _).mono ?_; rintro e w' ⟨rfl, rfl⟩) | (go_at_call 58; refine (cloneComb_c ad n cp c _ H.out (by omega)).mono ?_; rintro e w1 ⟨A1, c1, rfl, hw1, hc1, hb1⟩))
  have W1 := Lib.hid hw1; have B1 := Lib.hid hb1
  clear hw1 hb1
  go_loopw [0, 12] (fun tv kv wr => ∃ (k : Nat) (A : Option Addr) (N cc : Nat) (t : List (Int × Int)), k ≤ m ∧ kv = .int .i64 k ∧ tv = .slice A N cc ∧ Hid (Wr wr w.heap.size wr.heap.size A (N * 2) (t.flatMap enc2)) ∧ Hid (t.length = N) ∧ N ≤ cc ∧ Hid (validC t = true) ∧ Hid (rcX (runC (m - k) t k) = R) ∧ Below w.heap.size w wr) (fun _ kv _ => m - (intOf kv).toNat)
  case atStart => exact ⟨0, A1, n, c1, c, by omega, rfl, rfl, W1.out, HL.out, hc1, HV.out, HR.out, B1.out⟩
  case round =>
    obtain ⟨k, A, N, cc, t, hk, rfl, rfl, hW, hN, hNc, hV, hr, hb⟩ := hrel
    have HB := Lib.hid hb
    have hwz := hb.size
    have hve := validC_end hV.out
    rw [hN.out] at hve
    have hN1 := hve.2.1
    have hN4 := hve.2.2
    have RD' : Rd2 wr A N t := hW.out.rd
    obtain ⟨ad2, rfl, _, _⟩ := RD'.2 (by omega)
    have RD := Lib.hid RD'
    obtain ⟨F, hF⟩ : ∃ F, firstC t N 0 = F := ⟨_, rfl⟩
    have HF := Lib.hid hF
    have HS := Lib.hid (show rcX (runK (m - k) t k F) = R by rw [← hr.out, runC_eq, hN.out, hF])
    have HC := Lib.hid (combStep_c ad2 N cc t F wr RD' hNc hV.out hF)
    clear hr hF hb hve RD'
    cases F with
    | none =>
      have HG := Lib.hid (show (t, (k : Int), true, (0 : Int)) = R from HS.out)
      go_wp2_with (go_at_call 31; refine HC.out.mono ?_; rintro e w2 ⟨rfl, hb2⟩)
      ((try simp only [Exit.inBlock, Exit.then]); refine bodyPost_ret (results_tmp4 rfl _ _ _) rfl ?_)
      rw [← HG.out]
      exact ⟨_, _, _, rfl, (hW.out.below hb2).wider (Nat.le_refl _) hb2.size, by omega, below_chain HB.out HB.out.size hb2⟩
    | some j =>
      obtain ⟨S, hS⟩ : ∃ S, stepC t j = S := ⟨_, rfl⟩
      obtain ⟨q, hq⟩ : ∃ q, validC S = q := ⟨_, rfl⟩
      have HQ := Lib.hid hq
      have HG := Lib.hid (show rcX (if m - k = 0 then some (t, k, false) else if q = true then runC (m - k - 1) S (k + 1) else none) = R by rw [← HS.out, runK, hS, hq])
      have HC2 : Calls Try.prog 31 #[.slice (some ad2) N cc] wr fun e w' => if q = true then ∃ A N cap, e = .returned (.tuple #[.slice A N cap, .int .i64 0]) ∧ Wr w' wr.heap.size w'.heap.size A (N * 2) (S.flatMap enc2) ∧ S.length = N ∧ N ≤ cap ∧ Below wr.heap.size wr w'
          else e = .returned (.tuple #[.slice none 0 0, .int .i64 5]) ∧ Below wr.heap.size wr w' := HC.out.mono fun e w' h => by
        have h' : if validC (stepC t j) = true then _ else _ := h
        rw [hS, hq] at h'; exact h'
      have HC3 := Lib.hid HC2
      clear hS hq HS HC HC2
      by_cases hkm : k = m
      · subst hkm
        have HG' := Lib.hid (show (t, (k : Int), false, (0 : Int)) = R by rw [← HG.out, if_pos (by omega)]; rfl)
        cases q
        · go_wp2_with (go_at_call 31; refine HC3.out.mono ?_; rintro e w2 ⟨rfl, hb2⟩)
          ((try simp only [Exit.inBlock, Exit.then]); refine bodyPost_ret (results_tmp4 rfl _ _ _) rfl ?_)
          rw [← HG'.out]
          exact ⟨_, _, _, rfl, (hW.out.below hb2).wider (Nat.le_refl _) hb2.size, by omega, below_chain HB.out HB.out.size hb2⟩
        · go_wp2_with (go_at_call 31; refine HC3.out.mono ?_; rintro e w2 ⟨A2, N2, c2, rfl, hw2, hl2, hc2, hb2⟩)
          ((try simp only [Exit.inBlock, Exit.then]); refine bodyPost_ret (results_tmp4 rfl _ _ _) rfl ?_)
          rw [← HG'.out]
          exact ⟨_, _, _, rfl, (hW.out.below hb2).wider (Nat.le_refl _) hb2.size, by omega, below_chain HB.out HB.out.size hb2⟩
      have g1 : ((k : Int) == (m : Int)) = false := by simp; omega
      cases q
      · have HG' := Lib.hid (show ([], (0 : Int), false, (5 : Int)) = R by rw [← HG.out, if_neg (by omega)]; rfl)
        go_wp2_with (go_at_call 31; refine HC3.out.mono ?_; rintro e w2 ⟨rfl, hb2⟩)
        ((try simp only [Exit.inBlock, Exit.then]); refine bodyPost_ret (results_tmp4 rfl _ _ _) rfl ?_)
        rw [← HG'.out]
        exact RcOut.bad 5 (below_chain HB.out HB.out.size hb2)
      · have HG' := Lib.hid (show rcX (runC (m - (k + 1)) S (k + 1)) = R by rw [← HG.out, if_neg (by omega), if_pos rfl, show m - k - 1 = m - (k + 1) by omega])
        go_wp2_with (go_at_call 31; refine HC3.out.mono ?_; rintro e w2 ⟨A2, N2, c2, rfl, hw2, hl2, hc2, hb2⟩)
        go_roundw
        case rel => exact ⟨k + 1, A2, N2, c2, S, by omega, by go_num, rfl, hw2.wider hwz (Nat.le_refl _), hl2, hc2, HQ.out, HG'.out, below_chain HB.out HB.out.size hb2⟩
        case measure => simp [intOf]; omega
theorem iRunComb_c (A : Option Addr) (n cp : Nat) (c : List (Int × Int)) (b : Int) (w : World) (h : Rd2 w A n c) (hn : n ≤ 1000000000) :
    Calls Try.prog 10 #[.slice A n cp, .int .i64 b] w (RcOut (rcR c b) w) := by
  obtain ⟨R, hR⟩ : ∃ R, rcR c b = R := ⟨_, rfl⟩
  rw [hR]
  obtain ⟨q, hq⟩ : ∃ q, validC c = q := ⟨_, rfl⟩
  have H := Lib.hid h; have HR := Lib.hid hR; have HQ := Lib.hid hq
  clear h hR hq
  go_enter Try.func10, Try.ntmps10
  go_wp2_with (first | (go_at_call 30; refine (validComb_c _ _ _ c q _ H.out hn HQ.out).mono ?_; rintro e w1 ⟨rfl, hb1⟩) | (go_at_call 29; refine (normalizedComb_c _ _ _ c b q R _ (H.out.below hb1) HQ.out HR.out).mono ?_; rintro e w2 ⟨A2, N2, c2, rfl, hw2, hN2, hb2⟩))
  ((try simp only [Exit.inBlock, Exit.then]); refine bodyPost_ret (results_tmp4 rfl _ _ _) rfl ?_)
  exact ⟨_, _, _, rfl, hw2.wider hb1.size (Nat.le_refl _), hN2, below_chain hb1 hb1.size hb2⟩
end Go.Proofs.Ytfgnhdmiglobhaa
