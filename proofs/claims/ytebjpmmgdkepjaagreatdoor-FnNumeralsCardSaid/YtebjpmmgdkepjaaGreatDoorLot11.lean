/-
  Parts of the proof, one behind the other: contracts of the functions that the law reaches, and plain laws.
-/
import Derived.Shelf.Small.Bits
import Derived.Shelf.Strconv.Itoa0
import Derived.Shelf.Bits.Mul64
import Derived.Ground.SlgnProg
import Derived.Shelf.SlicesG.CompactI
import Derived.Ground.SlgmProg
import Derived.Shelf.SortM.Plain
import Derived.Shelf.SortM.SortNone
import Derived.Test.YtebjpmmgdkepjaaGreatDoorProg
import Derived.Test.YtebjpmmgdkepjaaGreatDoorLot03
import Derived.Test.YtebjpmmgdkepjaaGreatDoorLot04
import Derived.Test.YtebjpmmgdkepjaaGreatDoorLot10
/-
  Contracts of chapter 12: the program's step and run of combinator terms.
-/
namespace Go.Proofs.YtebjpmmgdkepjaaGreatDoor
open Go.RowKit

/-- a step's answer -/
def CsOut (c : List (Int × Int)) (F : Option Nat) (w : World) (e : Ending) (w' : World) : Prop := match F with
  | none => e = .returned (.tuple #[.slice none 0 0, .int .i64 6]) ∧ Below w.heap.size w w'
  | some k => if validC (stepC c k) = true then ∃ A N cap, e = .returned (.tuple #[.slice A N cap, .int .i64 0]) ∧ Wr w' w.heap.size w'.heap.size A (N * 2) ((stepC c k).flatMap enc2) ∧ (stepC c k).length = N ∧ N ≤ cap ∧ Below w.heap.size w w'
    else e = .returned (.tuple #[.slice none 0 0, .int .i64 5]) ∧ Below w.heap.size w w'
set_option maxHeartbeats 4000000 in
set_option maxRecDepth 100000 in
theorem combStep_c (ad : Addr) (n cp : Nat) (c : List (Int × Int)) (F : Option Nat) (w : World) (h : Rd2 w (some ad) n c) (hnc : n ≤ cp) (hv : validC c = true) (hF : firstC c n 0 = F) :
    Calls Tryz.prog 160 #[.slice (some ad) n cp] w (CsOut c F w) := by
  obtain ⟨hv1, hv2, hv3⟩ := validC_end hv
  have hl := h.len
  rw [hl] at hv2 hv3
  have H := Lib.hid h; have HF := Lib.hid hF; have HV := Lib.hid hv; have HV1 := Lib.hid hv1; have HL := Lib.hid hl
  clear h hF hv hv1 hl
  go_enter Tryz.func160, Tryz.ntmps160
  go_wp2_with (go_at_call 37; refine (validComb_c _ _ _ c true _ H.out (by omega) HV.out).mono ?_; rintro e w0 ⟨rfl, hb0⟩)
  have B0 := Lib.hid hb0; clear hb0
  go_loopw [13] (fun iv wr => ∃ k : Nat, k ≤ n ∧ iv = .int .i64 k ∧ Hid (firstC c (n - k) k = F) ∧ Below w.heap.size w wr) (fun iv _ => n - (intOf iv).toNat)
  case atStart => exact ⟨0, by omega, rfl, HF.out, B0.out⟩
  case round =>
    obtain ⟨k, hk, rfl, hr, hb⟩ := hrel
    have HB := Lib.hid hb
    have R := Lib.hid (H.out.below hb)
    clear hb
    by_cases hlt : k < n
    · obtain ⟨m, hm⟩ : ∃ m, formC (c.drop k) = m := ⟨_, rfl⟩
      have HS := Lib.hid (show (if 0 < m then some k else firstC c (n - (k + 1)) (k + 1)) = F by rw [← hr.out, show n - k = n - (k + 1) + 1 by omega, firstC, hm])
      have HM := Lib.hid hm
      clear hr
      by_cases h0 : 0 < m
      · have HG := Lib.hid (show some k = F by rw [← HS.out, if_pos h0])
        obtain ⟨z, hz⟩ : ∃ z, endI c (k + m + 1) m = z := ⟨_, rfl⟩
        have HZ := Lib.hid hz
        obtain ⟨S, hS⟩ : ∃ S, stepC c k = S := ⟨_, rfl⟩
        have HSS := Lib.hid (show c.take k ++ byC c k m ++ c.drop z = S by rw [← hS, stepC, hm, hz])
        obtain ⟨q, hq⟩ : ∃ q, validC S = q := ⟨_, rfl⟩
        have HQ := Lib.hid hq
        have HSK := Lib.hid hS
        clear hm hz hS hq HS
        go_wp2_with (go_at_call 195; refine (contractedYes_c ad n cp c k m z _ R.out hv3 hnc HV1.out hlt HM.out h0 HZ.out).mono ?_; rintro e w2 ⟨A2, N2, c2, rfl, hr2, hN2, hzn, hb2⟩)
        have B2 := Lib.hid (below_chain HB.out HB.out.size hb2)
        have R2 := Lib.hid hr2
        clear hb2
        by_cases hzc : z < cp
        · have RZ : ∀ o, Rd2 ((w2.alloc o).drew) (some (ad.add (z * 2))) (n - z) (c.drop z) := fun o => by
            have hx := (H.out.below (below_drew (B2.out.alloc B2.out.size o))).part z (n - z) (by omega)
            rw [List.take_of_length_le (by rw [List.length_drop, HL.out]; exact Nat.le_refl _)] at hx; exact hx
          go_wp2_with fail
          have HRV := Lib.hid (show RdV (w2.alloc (.cells #[.slice (some ad) k cp, .slice A2 N2 c2, .slice (some (ad.add (z * 2))) (n - z) (cp - z)] 37)).drew 2 (some ⟨w2.heap.size, 0, none⟩) 3 [itC (some ad) k cp (c.take k), itC A2 N2 c2 (byC c k m), itC (some (ad.add (z * 2))) (n - z) (cp - z) (c.drop z)] from
            rdVC ((Blk.new _ _ _).drew) (by simp [hdV, itC]) rfl (fun i hi => by
              simp only [List.mem_cons, List.not_mem_nil, or_false] at hi
              rcases hi with rfl | rfl | rfl
              · exact itC_ok ((H.out.below (below_drew (B2.out.alloc B2.out.size _))).upto k (by omega))
              · exact itC_ok (R2.out.below (below_drew (below_size.alloc (Nat.le_refl _) _)))
              · exact itC_ok (RZ _)))
          clear RZ hr2
          refine Mix.wp_region_mix [0, 0, 0, 0, 0, 0, 0, 1, 1, 0] (fun w' => ∃ x : Ext w2, w' = x.w) (by kernel_rfl) (by kernel_rfl) (InExt.drew _) ?_
          repeat (first | (refine Mix.wpMix_read (by rfl) ?_; go_big_quiet_step (fail); refine wpQuiet_nil ?_) | (refine Mix.wpMix_pure (by rfl) ?_; go_big_quiet_step (fail); refine wpQuiet_nil ?_))
          refine Mix.wpMix_chg (by rfl) (fun K hK => ?_)
          go_wp2_with fail
          refine hK _ _ ⟨⟨_, below_drew (below_size.alloc (Nat.le_refl _) _)⟩, rfl⟩ ?_
          clear hK K
          refine Mix.wpMix_chg (by rfl) (fun K hK => ?_)
          go_wp2_with fail
          refine (concatComb_c _ 3 3 _ _ HRV.out (by omega) (by simp [sumV, itC]; omega)).mono ?_
          rintro e w3 ⟨A3, c3, rfl, hw3, hc3, hb3⟩
          obtain ⟨N, hN⟩ : ∃ N, sumV [itC (some ad) k cp (c.take k), itC A2 N2 c2 (byC c k m), itC (some (ad.add (z * 2))) (n - z) (cp - z) (c.drop z)] = N := ⟨_, rfl⟩
          have hNb : N ≤ 3000 := by rw [← hN]; simp [sumV, itC]; omega
          rw [hN] at hw3 hc3
          rw [hN]
          have E3 := Lib.hid (up1 (below_of_drew hb3))
          have B3 := Lib.hid (below_chain B2.out B2.out.size E3.out)
          have W3 := Lib.hid (show Wr w3 w.heap.size w3.heap.size A3 (N * 2) (S.flatMap enc2) by
            rw [← HSS.out]
            have h1 := hw3.wider (lo' := w.heap.size) (hi' := w3.heap.size) (by have := B2.out.size; simp; omega) (Nat.le_refl _)
            simpa [itC, List.flatMap_append, List.append_assoc] using h1)
          have R3 := Lib.hid (show Rd2 w3 A3 N S from W3.out.rd)
          have hsl := R3.out.len
          clear hw3 hb3 hN HRV
          go_wp2_with fail
          refine hK _ _ ⟨⟨_, E3.out⟩, rfl⟩ ?_
          clear hK K
          repeat (first | (refine Mix.wpMix_read (by rfl) ?_; go_big_quiet_step (fail); refine wpQuiet_nil ?_) | (refine Mix.wpMix_pure (by rfl) ?_; go_big_quiet_step (fail); refine wpQuiet_nil ?_))
          (refine Mix.wpMix_nil ?_; try simp only [Exit.then])
          cases q
          · go_wp2_with (go_at_call 37; refine (validComb_c _ _ _ S false _ R3.out (by omega) HQ.out).mono ?_; rintro e w4 ⟨rfl, hb4⟩)
            go_ret2
            rw [← HG.out]
            show if validC (stepC c k) = true then _ else _
            rw [HSK.out, if_neg (by rw [HQ.out]; simp)]
            exact ⟨rfl, below_chain B3.out B3.out.size hb4⟩
          · go_wp2_with (go_at_call 37; refine (validComb_c _ _ _ S true _ R3.out (by omega) HQ.out).mono ?_; rintro e w4 ⟨rfl, hb4⟩)
            go_ret2
            rw [← HG.out]
            show if validC (stepC c k) = true then _ else _
            rw [HSK.out, if_pos HQ.out]
            exact ⟨_, _, _, rfl, (W3.out.below hb4).wider (Nat.le_refl _) hb4.size, hsl, hc3, below_chain B3.out B3.out.size hb4⟩
        · obtain rfl : z = cp := by omega
          have RZ : ∀ o, Rd2 ((w2.alloc o).drew) (some ad) 0 (c.drop z) := fun o => by
            rw [List.drop_eq_nil_of_le (by rw [HL.out]; omega)]; exact Rd2.none0
          go_wp2_with fail
          have HRV := Lib.hid (show RdV (w2.alloc (.cells #[.slice (some ad) k z, .slice A2 N2 c2, .slice (some ad) 0 0] 37)).drew 2 (some ⟨w2.heap.size, 0, none⟩) 3 [itC (some ad) k z (c.take k), itC A2 N2 c2 (byC c k m), itC (some ad) 0 0 (c.drop z)] from
            rdVC ((Blk.new _ _ _).drew) (by simp [hdV, itC]) rfl (fun i hi => by
              simp only [List.mem_cons, List.not_mem_nil, or_false] at hi
              rcases hi with rfl | rfl | rfl
              · exact itC_ok ((H.out.below (below_drew (B2.out.alloc B2.out.size _))).upto k (by omega))
              · exact itC_ok (R2.out.below (below_drew (below_size.alloc (Nat.le_refl _) _)))
              · exact itC_ok (RZ _)))
          clear RZ hr2
          refine Mix.wp_region_mix [0, 0, 0, 0, 0, 0, 0, 1, 1, 0] (fun w' => ∃ x : Ext w2, w' = x.w) (by kernel_rfl) (by kernel_rfl) (InExt.drew _) ?_
          repeat (first | (refine Mix.wpMix_read (by rfl) ?_; go_big_quiet_step (fail); refine wpQuiet_nil ?_) | (refine Mix.wpMix_pure (by rfl) ?_; go_big_quiet_step (fail); refine wpQuiet_nil ?_))
          refine Mix.wpMix_chg (by rfl) (fun K hK => ?_)
          go_wp2_with fail
          refine hK _ _ ⟨⟨_, below_drew (below_size.alloc (Nat.le_refl _) _)⟩, rfl⟩ ?_
          clear hK K
          refine Mix.wpMix_chg (by rfl) (fun K hK => ?_)
          go_wp2_with fail
          refine (concatComb_c _ 3 3 _ _ HRV.out (by omega) (by simp [sumV, itC]; omega)).mono ?_
          rintro e w3 ⟨A3, c3, rfl, hw3, hc3, hb3⟩
          obtain ⟨N, hN⟩ : ∃ N, sumV [itC (some ad) k z (c.take k), itC A2 N2 c2 (byC c k m), itC (some ad) 0 0 (c.drop z)] = N := ⟨_, rfl⟩
          have hNb : N ≤ 3000 := by rw [← hN]; simp [sumV, itC]; omega
          rw [hN] at hw3 hc3
          rw [hN]
          have E3 := Lib.hid (up1 (below_of_drew hb3))
          have B3 := Lib.hid (below_chain B2.out B2.out.size E3.out)
          have W3 := Lib.hid (show Wr w3 w.heap.size w3.heap.size A3 (N * 2) (S.flatMap enc2) by
            rw [← HSS.out]
            have h1 := hw3.wider (lo' := w.heap.size) (hi' := w3.heap.size) (by have := B2.out.size; simp; omega) (Nat.le_refl _)
            simpa [itC, List.flatMap_append, List.append_assoc] using h1)
          have R3 := Lib.hid (show Rd2 w3 A3 N S from W3.out.rd)
          have hsl := R3.out.len
          clear hw3 hb3 hN HRV
          go_wp2_with fail
          refine hK _ _ ⟨⟨_, E3.out⟩, rfl⟩ ?_
          clear hK K
          repeat (first | (refine Mix.wpMix_read (by rfl) ?_; go_big_quiet_step (fail); refine wpQuiet_nil ?_) | (refine Mix.wpMix_pure (by rfl) ?_; go_big_quiet_step (fail); refine wpQuiet_nil ?_))
          (refine Mix.wpMix_nil ?_; try simp only [Exit.then])
          cases q
          · go_wp2_with (go_at_call 37; refine (validComb_c _ _ _ S false _ R3.out (by omega) HQ.out).mono ?_; rintro e w4 ⟨rfl, hb4⟩)
            go_ret2
            rw [← HG.out]
            show if validC (stepC c k) = true then _ else _
            rw [HSK.out, if_neg (by rw [HQ.out]; simp)]
            exact ⟨rfl, below_chain B3.out B3.out.size hb4⟩
          · go_wp2_with (go_at_call 37; refine (validComb_c _ _ _ S true _ R3.out (by omega) HQ.out).mono ?_; rintro e w4 ⟨rfl, hb4⟩)
            go_ret2
            rw [← HG.out]
            show if validC (stepC c k) = true then _ else _
            rw [HSK.out, if_pos HQ.out]
            exact ⟨_, _, _, rfl, (W3.out.below hb4).wider (Nat.le_refl _) hb4.size, hsl, hc3, below_chain B3.out B3.out.size hb4⟩
      · obtain rfl : m = 0 := by omega
        have HG := Lib.hid (show firstC c (n - (k + 1)) (k + 1) = F by rw [← HS.out, if_neg h0])
        clear hm HS
        go_wp2_with (go_at_call 195; refine (contractedNo_c (some ad) n cp c k _ R.out (by omega) hk HM.out).mono ?_; rintro e w2 ⟨rfl, hb2⟩)
        go_roundw
        case rel => exact ⟨k + 1, by omega, by go_num, HG.out, below_chain HB.out HB.out.size hb2⟩
        case measure => simp [intOf]; omega
    · have HG := Lib.hid (show none = F by rw [← hr.out, show n - k = 0 by omega]; rfl)
      clear hr
      go_wp2_with fail
      go_ret2
      rw [← HG.out]
      exact ⟨rfl, HB.out⟩
set_option maxRecDepth 100000 in
theorem cloneComb_c (ad : Addr) (n cp : Nat) (c : List (Int × Int)) (w : World) (h : Rd2 w (some ad) n c) (hn : n ≤ 1000000) :
    Calls Tryz.prog 109 #[.slice (some ad) n cp] w fun e w' => ∃ A' cap, e = .returned (.slice A' n cap) ∧ Wr w' w.heap.size w'.heap.size A' (n * 2) (c.flatMap enc2) ∧ n ≤ cap ∧ Below w.heap.size w w' := by
  have HC := Lib.hid (show Rd2 (w.alloc (.cells #[] 100)) (some ad) n c from h.alloc _)
  have he : ∀ w, (binOp BinOp.eql 37 (Value.slice (some ad) n cp) (Value.slice none 0 0)).run Tryz.prog w = .ok (.bool false) w := fun w => by kernel_rfl
  clear h
  go_enter Tryz.func109, Tryz.ntmps109
  go_wp2_with (at_builtin; refine wp_appComb (by rfl) _ _ (by rfl) w.heap.size (some ⟨w.heap.size, 0, none⟩) 0 0 [] (by rfl) (by exact Own.litK (Nat.le_refl _)) (some ad) n cp c (by rfl) (by exact HC.out) (by omega) (by simp) ?_; intro A1 c1 w1 own1 hb1 hk1 hg1 hz1)
  rw [Nat.zero_add, List.nil_append] at own1
  have O1 := Lib.hid own1; have B1 := Lib.hid ((below_size.alloc (Nat.le_refl _) (.cells #[] 100)).trans hb1)
  clear own1 hb1 hk1 hg1 hz1
  go_wp2_with fail
  go_ret
  exact ⟨A1, c1, by simp, O1.out.wrK, O1.out.cap, B1.out⟩
theorem budgetOkC_b (b : Int) (q : Bool) (hq : inB b 1 20000 = q) (w : World) : Calls Tryz.prog 38 #[.int .i64 b] w fun e w' => e = .returned (.bool q) ∧ w = w' := by
  subst hq
  go_enter Tryz.func38, Tryz.ntmps38
  go_wp2_with (go_at_call 24; refine (within_c _ _ _ _).mono ?_; rintro e w' ⟨rfl, rfl⟩)
  go_ret
  exact ⟨rfl, rfl⟩
set_option maxHeartbeats 4000000 in
set_option maxRecDepth 100000 in
theorem normalizedComb_c (A : Option Addr) (n cp : Nat) (c : List (Int × Int)) (b : Int) (q : Bool) (R : List (Int × Int) × Int × Bool × Int) (w : World) (h : Rd2 w A n c) (hv : validC c = q) (hR : rcR c b = R) :
    Calls Tryz.prog 159 #[.slice A n cp, .int .i64 b, .bool q, .func (.func 160) #[] #[]] w (RcOut R w) := by
  cases q
  · have HR := Lib.hid (show ([], 0, false, 1) = R by rw [← hR, rcR, if_pos hv])
    clear hv hR h
    go_enter Tryz.func159, Tryz.ntmps159
    go_wp2_with fail
    ((try simp only [Exit.inBlock, Exit.then]); refine bodyPost_ret (results_tmp4 rfl _ _ _) rfl ?_)
    rw [← HR.out]
    exact RcOut.bad 1 below_size
  cases hb : inB b 1 20000
  · have HR := Lib.hid (show ([], 0, false, 2) = R by rw [← hR, rcR, if_neg (by rw [hv]; simp), if_pos hb])
    clear hv hR h
    go_enter Tryz.func159, Tryz.ntmps159
    go_wp2_with (go_at_call 38; refine (budgetOkC_b _ _ (by assumption) _).mono ?_; rintro e w' ⟨rfl, rfl⟩)
    ((try simp only [Exit.inBlock, Exit.then]); refine bodyPost_ret (results_tmp4 rfl _ _ _) rfl ?_)
    rw [← HR.out]
    exact RcOut.bad 2 below_size
  have hb1 := inB_t hb
  obtain ⟨m, rfl⟩ : ∃ m : Nat, b = m := ⟨b.toNat, by omega⟩
  obtain ⟨hv1, hv2, hv3⟩ := validC_end hv
  have hl := h.len
  rw [hl] at hv2 hv3
  obtain ⟨ad, rfl, hab, _⟩ := h.2 (by omega)
  have HR := Lib.hid (show rcX (runC m c 0) = R by rw [← hR, rcR, if_neg (by rw [hv]; simp), if_neg (by rw [hb]; simp), show ((m : Int)).toNat = m by omega])
  have HV := Lib.hid hv; have H := Lib.hid h; have HL := Lib.hid hl
  clear hv hR h hv1 hl
  go_enter Tryz.func159, Tryz.ntmps159
  go_wp2_with (first | (go_at_call 38; refine (budgetOkC_b _ _ (by assumption) _).mono ?_; rintro e w' ⟨rfl, rfl⟩) | (go_at_call 109; refine (cloneComb_c ad n cp c _ H.out (by omega)).mono ?_; rintro e w1 ⟨A1, c1, rfl, hw1, hc1, hb1⟩))
  have W1 := Lib.hid hw1; have B1 := Lib.hid hb1
  clear hw1 hb1
  go_loopw [0, 12] (fun tv kv wr => ∃ (k : Nat) (A : Option Addr) (N cc : Nat) (t : List (Int × Int)), k ≤ m ∧ kv = .int .i64 k ∧ tv = .slice A N cc ∧ Hid (Wr wr w.heap.size wr.heap.size A (N * 2) (t.flatMap enc2)) ∧ Hid (t.length = N) ∧ N ≤ cc ∧ Hid (validC t = true) ∧ Hid (rcX (runC (m - k) t k) = R) ∧ Below w.heap.size w wr) (fun _ kv _ => m - (intOf kv).toNat)
  case atStart => exact ⟨0, A1, n, c1, c, by omega, rfl, rfl, W1.out, HL.out, hc1, HV.out, HR.out, B1.out⟩
  case round =>
    obtain ⟨k, A, N, cc, t, hk, rfl, rfl, hW, hN, hNc, hV, hr, hb⟩ := hrel
    have HB := Lib.hid hb
    have hwz := hb.size
    have hve := validC_end hV.out
    rw [hN.out] at hve
    have hN1 := hve.2.1
    have hN4 := hve.2.2
    have RD' : Rd2 wr A N t := hW.out.rd
    obtain ⟨ad2, rfl, _, _⟩ := RD'.2 (by omega)
    have RD := Lib.hid RD'
    obtain ⟨F, hF⟩ : ∃ F, firstC t N 0 = F := ⟨_, rfl⟩
    have HF := Lib.hid hF
    have HS := Lib.hid (show rcX (runK (m - k) t k F) = R by rw [← hr.out, runC_eq, hN.out, hF])
    have HC := Lib.hid (combStep_c ad2 N cc t F wr RD' hNc hV.out hF)
    clear hr hF hb hve RD'
    cases F with
    | none =>
      have HG := Lib.hid (show (t, (k : Int), true, (0 : Int)) = R from HS.out)
      go_wp2_with (go_at_call 160; refine HC.out.mono ?_; rintro e w2 ⟨rfl, hb2⟩)
      ((try simp only [Exit.inBlock, Exit.then]); refine bodyPost_ret (results_tmp4 rfl _ _ _) rfl ?_)
      rw [← HG.out]
      exact ⟨_, _, _, rfl, (hW.out.below hb2).wider (Nat.le_refl _) hb2.size, by omega, below_chain HB.out HB.out.size hb2⟩
    | some j =>
      obtain ⟨S, hS⟩ : ∃ S, stepC t j = S := ⟨_, rfl⟩
      obtain ⟨q, hq⟩ : ∃ q, validC S = q := ⟨_, rfl⟩
      have HQ := Lib.hid hq
      have HG := Lib.hid (show rcX (if m - k = 0 then some (t, k, false) else if q = true then runC (m - k - 1) S (k + 1) else none) = R by rw [← HS.out, runK, hS, hq])
      have HC2 : Calls Tryz.prog 160 #[.slice (some ad2) N cc] wr fun e w' => if q = true then ∃ A N cap, e = .returned (.tuple #[.slice A N cap, .int .i64 0]) ∧ Wr w' wr.heap.size w'.heap.size A (N * 2) (S.flatMap enc2) ∧ S.length = N ∧ N ≤ cap ∧ Below wr.heap.size wr w'
          else e = .returned (.tuple #[.slice none 0 0, .int .i64 5]) ∧ Below wr.heap.size wr w' := HC.out.mono fun e w' h => by
        have h' : if validC (stepC t j) = true then _ else _ := h
        rw [hS, hq] at h'; exact h'
      have HC3 := Lib.hid HC2
      clear hS hq HS HC HC2
      by_cases hkm : k = m
      · subst hkm
        have HG' := Lib.hid (show (t, (k : Int), false, (0 : Int)) = R by rw [← HG.out, if_pos (by omega)]; rfl)
        cases q
        · go_wp2_with (go_at_call 160; refine HC3.out.mono ?_; rintro e w2 ⟨rfl, hb2⟩)
          ((try simp only [Exit.inBlock, Exit.then]); refine bodyPost_ret (results_tmp4 rfl _ _ _) rfl ?_)
          rw [← HG'.out]
          exact ⟨_, _, _, rfl, (hW.out.below hb2).wider (Nat.le_refl _) hb2.size, by omega, below_chain HB.out HB.out.size hb2⟩
        · go_wp2_with (go_at_call 160; refine HC3.out.mono ?_; rintro e w2 ⟨A2, N2, c2, rfl, hw2, hl2, hc2, hb2⟩)
          ((try simp only [Exit.inBlock, Exit.then]); refine bodyPost_ret (results_tmp4 rfl _ _ _) rfl ?_)
          rw [← HG'.out]
          exact ⟨_, _, _, rfl, (hW.out.below hb2).wider (Nat.le_refl _) hb2.size, by omega, below_chain HB.out HB.out.size hb2⟩
      have g1 : ((k : Int) == (m : Int)) = false := by simp; omega
      cases q
      · have HG' := Lib.hid (show ([], (0 : Int), false, (5 : Int)) = R by rw [← HG.out, if_neg (by omega)]; rfl)
        go_wp2_with (go_at_call 160; refine HC3.out.mono ?_; rintro e w2 ⟨rfl, hb2⟩)
        ((try simp only [Exit.inBlock, Exit.then]); refine bodyPost_ret (results_tmp4 rfl _ _ _) rfl ?_)
        rw [← HG'.out]
        exact RcOut.bad 5 (below_chain HB.out HB.out.size hb2)
      · have HG' := Lib.hid (show rcX (runC (m - (k + 1)) S (k + 1)) = R by rw [← HG.out, if_neg (by omega), if_pos rfl, show m - k - 1 = m - (k + 1) by omega])
        go_wp2_with (go_at_call 160; refine HC3.out.mono ?_; rintro e w2 ⟨A2, N2, c2, rfl, hw2, hl2, hc2, hb2⟩)
        go_roundw
        case rel => exact ⟨k + 1, A2, N2, c2, S, by omega, by go_num, rfl, hw2.wider hwz (Nat.le_refl _), hl2, hc2, HQ.out, HG'.out, below_chain HB.out HB.out.size hb2⟩
        case measure => simp [intOf]; omega
theorem iRunComb_c (A : Option Addr) (n cp : Nat) (c : List (Int × Int)) (b : Int) (w : World) (h : Rd2 w A n c) (hn : n ≤ 1000000000) :
    Calls Tryz.prog 115 #[.slice A n cp, .int .i64 b] w (RcOut (rcR c b) w) := by
  obtain ⟨R, hR⟩ : ∃ R, rcR c b = R := ⟨_, rfl⟩
  rw [hR]
  obtain ⟨q, hq⟩ : ∃ q, validC c = q := ⟨_, rfl⟩
  have H := Lib.hid h; have HR := Lib.hid hR; have HQ := Lib.hid hq
  clear h hR hq
  go_enter Tryz.func115, Tryz.ntmps115
  go_wp2_with (first | (go_at_call 37; refine (validComb_c _ _ _ c q _ H.out hn HQ.out).mono ?_; rintro e w1 ⟨rfl, hb1⟩) | (go_at_call 159; refine (normalizedComb_c _ _ _ c b q R _ (H.out.below hb1) HQ.out HR.out).mono ?_; rintro e w2 ⟨A2, N2, c2, rfl, hw2, hN2, hb2⟩))
  ((try simp only [Exit.inBlock, Exit.then]); refine bodyPost_ret (results_tmp4 rfl _ _ _) rfl ?_)
  exact ⟨_, _, _, rfl, hw2.wider hb1.size (Nat.le_refl _), hN2, below_chain hb1 hb1.size hb2⟩
end Go.Proofs.YtebjpmmgdkepjaaGreatDoor
/-
  The library contracts at this program, as the kit's tools lay them, in plain words.
-/
namespace Go.Proofs
open Go.Shelf
def Tryz.laysSlN43_f67_ren : Go.Shelf.Ren := ⟨fun | 43 => 71 | n => n, fun | 22 => 29 | 23 => 2 | 3 => 3 | 4 => 4 | 0 => 0 | n => n, fun | n => n⟩
theorem Tryz.laysSlN43_f67 : Go.Proofs.SlLaysN.n43 Tryz.prog Tryz.laysSlN43_f67_ren := {
  mixed := by kernel_rfl
  f43 := ⟨Tryz.f71.name, by decide, Tryz.func71.trans (congrArg some (by kernel_rfl))⟩
  t0 := Tryz.underlying0
  a0 := Tryz.isAgg0
  z0 := Tryz.sizeOf0
  v0 := Tryz.zeroValue0
  t3 := Tryz.underlying3
  a3 := Tryz.isAgg3
  z3 := Tryz.sizeOf3
  v3 := Tryz.zeroValue3
  t4 := Tryz.underlying4
  a4 := Tryz.isAgg4
  z4 := Tryz.sizeOf4
  v4 := Tryz.zeroValue4
  t22 := Tryz.underlying29
  a22 := Tryz.isAgg29
  z22 := Tryz.sizeOf29
  v22 := Tryz.zeroValue29
  t23 := Tryz.underlying2
  a23 := Tryz.isAgg2
  z23 := Tryz.sizeOf2
  v23 := Tryz.zeroValue2
  i23 := by kernel_rfl }
open Go.RowKit Go.Lib Go.Sort in
/-- slices.Compact at []int, over an array: the library's two loops are walked. (LAID AT THE INSTANCE 'slices.Compact[[]int64,int64]': no walk: one application.) -/
theorem Tryz.slices_Compact_int_arr (blk off cap : Nat) (d : Array Int) (w : World) (hH : Holds encI w blk off d) (hsz : d.size ≤ 9223372036854775807) (hcap : d.size ≤ cap) :
    Calls Tryz.prog 71 #[.slice (some ⟨blk, off, none⟩) d.size cap] w fun e w' => e = .returned (.slice (some ⟨blk, off, none⟩) (compactUpTo d d.size).length cap) ∧ ∃ q, w' = putRow encI (Sort.ahead w q) blk off (compactUpTo d d.size ++ List.replicate (d.size - (compactUpTo d d.size).length) 0).toArray := AnyG.slices_Compact_int_arr Tryz.laysSlN43_f67 blk off cap d w hH hsz hcap
open Go.RowKit Go.Lib Go.Sort in
/-- slices.Compact at []int: "Compact replaces consecutive runs of equal elements with a single copy. This is like the uniq command found on Unix. Compact modifies the contents of the slice s and returns the modified slice, which may have a smaller length. Compact zeroes the elements between the new length and the original length. The result preserves the nilness of s.": IT RETURNS THE SLICE CUT TO 'Lib.compact zs'; ITS CELLS HOLD 'Lib.compact zs', THEN ZERO VALUES up to the old length; all else is as it was, but for the count of draws. IN THE WORDS OF slices.Sort's CONTRACT ('Holds', 'putRow'): so the everyday 'slices.Sort(xs); xs = slices.Compact(xs)' goes from the one contract to the other. It asks 'zs.length ≤ cap' (every slice's: the reslicing 's[:k]' looks at it). Length 0, nil: '.._empty'. (LAID AT THE INSTANCE 'slices.Compact[[]int64,int64]': no walk: one application.) -/
theorem Tryz.slices_Compact_int (blk off cap : Nat) (zs : List Int) (w : World) (hH : Holds (Value.int .i64) w blk off zs.toArray) (hsz : zs.length ≤ 9223372036854775807) (hcap : zs.length ≤ cap) :
    Calls Tryz.prog 71 #[.slice (some ⟨blk, off, none⟩) zs.length cap] w fun e w' => e = .returned (.slice (some ⟨blk, off, none⟩) (Lib.compact zs).length cap) ∧ ∃ q, w' = putRow (Value.int .i64) (Sort.ahead w q) blk off (Lib.compact zs ++ List.replicate (zs.length - (Lib.compact zs).length) 0).toArray := AnyG.slices_Compact_int Tryz.laysSlN43_f67 blk off cap zs w hH hsz hcap
open Go.RowKit Go.Lib Go.Sort in
/-- The same at a slice of length 0, a nil one too: it comes back as it is. (LAID AT THE INSTANCE 'slices.Compact[[]int64,int64]': no walk: one application.) -/
theorem Tryz.slices_Compact_int_empty (a : Option Addr) (cap : Nat) (w : World) :
    Calls Tryz.prog 71 #[.slice a 0 cap] w fun e w' => e = .returned (.slice a 0 cap) ∧ w' = w := AnyG.slices_Compact_int_empty Tryz.laysSlN43_f67 a cap w
def Tryz.laysSlM5_f66_ren : Go.Shelf.Ren := ⟨fun | 5 => 70 | 8 => 114 | 7 => 113 | 19 => 157 | 20 => 158 | 10 => 148 | 11 => 149 | 12 => 150 | 13 => 151 | 14 => 152 | 15 => 153 | 16 => 154 | 17 => 155 | 18 => 156 | 30 => 189 | 31 => 190 | 32 => 191 | 33 => 192 | 34 => 193 | 35 => 194 | 40 => 209 | n => n, fun | 23 => 29 | 25 => 2 | 3 => 3 | 32 => 138 | 22 => 29 | 0 => 0 | 44 => 185 | 46 => 187 | 4 => 4 | 36 => 178 | 35 => 177 | 41 => 141 | 5 => 5 | 9 => 9 | 53 => 216 | 57 => 220 | 63 => 236 | 64 => 237 | n => n, fun | n => n⟩
theorem Tryz.laysSlM5_f66 : Go.Proofs.SlLaysM.n5 Tryz.prog Tryz.laysSlM5_f66_ren := {
  mixed := by kernel_rfl
  f5 := ⟨Tryz.f70.name, by decide, Tryz.func70.trans (congrArg some (by kernel_rfl))⟩
  f7 := ⟨Tryz.f113.name, by decide, Tryz.func113.trans (congrArg some (by kernel_rfl))⟩
  f8 := Tryz.func114.trans (congrArg some (by kernel_rfl))
  f10 := ⟨Tryz.f148.name, by decide, Tryz.func148.trans (congrArg some (by kernel_rfl))⟩
  f11 := ⟨Tryz.f149.name, by decide, Tryz.func149.trans (congrArg some (by kernel_rfl))⟩
  f12 := ⟨Tryz.f150.name, by decide, Tryz.func150.trans (congrArg some (by kernel_rfl))⟩
  f13 := ⟨Tryz.f151.name, by decide, Tryz.func151.trans (congrArg some (by kernel_rfl))⟩
  f14 := ⟨Tryz.f152.name, by decide, Tryz.func152.trans (congrArg some (by kernel_rfl))⟩
  f15 := ⟨Tryz.f153.name, by decide, Tryz.func153.trans (congrArg some (by kernel_rfl))⟩
  f16 := ⟨Tryz.f154.name, by decide, Tryz.func154.trans (congrArg some (by kernel_rfl))⟩
  f17 := ⟨Tryz.f155.name, by decide, Tryz.func155.trans (congrArg some (by kernel_rfl))⟩
  f18 := ⟨Tryz.f156.name, by decide, Tryz.func156.trans (congrArg some (by kernel_rfl))⟩
  f19 := Tryz.func157.trans (congrArg some (by kernel_rfl))
  f20 := Tryz.func158.trans (congrArg some (by kernel_rfl))
  f30 := ⟨Tryz.f189.name, by decide, Tryz.func189.trans (congrArg some (by kernel_rfl))⟩
  f31 := Tryz.func190.trans (congrArg some (by kernel_rfl))
  f32 := Tryz.func191.trans (congrArg some (by kernel_rfl))
  f33 := ⟨Tryz.f192.name, by decide, Tryz.func192.trans (congrArg some (by kernel_rfl))⟩
  f34 := ⟨Tryz.f193.name, by decide, Tryz.func193.trans (congrArg some (by kernel_rfl))⟩
  f35 := ⟨Tryz.f194.name, by decide, Tryz.func194.trans (congrArg some (by kernel_rfl))⟩
  f40 := ⟨Tryz.f209.name, by decide, Tryz.func209.trans (congrArg some (by kernel_rfl))⟩
  t0 := Tryz.underlying0
  a0 := Tryz.isAgg0
  z0 := Tryz.sizeOf0
  v0 := Tryz.zeroValue0
  t3 := Tryz.underlying3
  a3 := Tryz.isAgg3
  z3 := Tryz.sizeOf3
  v3 := Tryz.zeroValue3
  t4 := Tryz.underlying4
  a4 := Tryz.isAgg4
  z4 := Tryz.sizeOf4
  v4 := Tryz.zeroValue4
  t5 := Tryz.underlying5
  a5 := Tryz.isAgg5
  z5 := Tryz.sizeOf5
  v5 := Tryz.zeroValue5
  t9 := Tryz.underlying9
  a9 := Tryz.isAgg9
  z9 := Tryz.sizeOf9
  v9 := Tryz.zeroValue9
  t22 := Tryz.underlying29
  a22 := Tryz.isAgg29
  z22 := Tryz.sizeOf29
  v22 := Tryz.zeroValue29
  t23 := Tryz.underlying29
  a23 := Tryz.isAgg29
  z23 := Tryz.sizeOf29
  v23 := Tryz.zeroValue29
  t25 := Tryz.underlying2
  a25 := Tryz.isAgg2
  z25 := Tryz.sizeOf2
  v25 := Tryz.zeroValue2
  t32 := Tryz.underlying138
  a32 := Tryz.isAgg138
  z32 := Tryz.sizeOf138
  v32 := Tryz.zeroValue138
  t35 := Tryz.underlying177
  a35 := Tryz.isAgg177
  z35 := Tryz.sizeOf177
  v35 := Tryz.zeroValue177
  t36 := Tryz.underlying178
  a36 := Tryz.isAgg178
  z36 := Tryz.sizeOf178
  v36 := Tryz.zeroValue178
  t41 := Tryz.underlying141
  a41 := Tryz.isAgg141
  z41 := Tryz.sizeOf141
  v41 := Tryz.zeroValue141
  t44 := Tryz.underlying185
  a44 := Tryz.isAgg185
  z44 := Tryz.sizeOf185
  v44 := Tryz.zeroValue185
  t46 := Tryz.underlying187
  a46 := Tryz.isAgg187
  z46 := Tryz.sizeOf187
  v46 := Tryz.zeroValue187
  t53 := Tryz.underlying216
  a53 := Tryz.isAgg216
  z53 := Tryz.sizeOf216
  v53 := Tryz.zeroValue216
  t57 := Tryz.underlying220
  a57 := Tryz.isAgg220
  z57 := Tryz.sizeOf220
  v57 := Tryz.zeroValue220
  t63 := Tryz.underlying236
  a63 := Tryz.isAgg236
  z63 := Tryz.sizeOf236
  v63 := Tryz.zeroValue236
  t64 := Tryz.underlying237
  a64 := Tryz.isAgg237
  z64 := Tryz.sizeOf237
  v64 := Tryz.zeroValue237 }
open Go.Sort Go.RowKit in
theorem Tryz.slices_Sort_int (blk off cap : Nat) (zs : List Int) (w : World) (hH : Holds (Value.int .i64) w blk off zs.toArray) (hblk : blk < w.heap.size) (hsz : zs.length < 4611686018427387904) :
    Calls Tryz.prog 70 #[.slice (some ⟨blk, off, none⟩) zs.length cap] w fun e w' =>
      e = .returned (.tuple #[]) ∧ ∃ n os, w' = grow (putRow (Value.int .i64) (Sort.ahead w n) blk off (zs.mergeSort fun x y => decide (x ≤ y)).toArray) os := AnyM.slices_Sort_int Tryz.laysSlM5_f66 blk off cap zs w hH hblk hsz
open Go.RowKit Go.Sort in
/-- .. and plain. (LAID AT THE INSTANCE 'slices.Sort[[]int64,int64]': no walk: one application.) -/
theorem Tryz.slices_Sort_int_none (p : Option Addr) (cap : Nat) (w : World) :
    Calls Tryz.prog 70 #[.slice p 0 cap] w fun e w' => e = .returned (.tuple #[]) ∧ w' = w := AnyM.slices_Sort_int_none Tryz.laysSlM5_f66 p cap w
end Go.Proofs
/-
  slices.Sort and slices.Compact at numbers: how a slice of the call's own reads behind them.
-/
namespace Go.Proofs.YtebjpmmgdkepjaaGreatDoor
open Go.RowKit Go.Sort

section
variable {α : Type} [Inhabited α] {enc : α → Value} {w : World} {g m : Nat} {d d0 : Array α} {os : Array Obj}
theorem putW_size : w.heap.size ≤ (grow (putRow enc (Sort.ahead w m) g 0 d) os).heap.size := by simp
theorem putW_block {k : Nat} (hk : k < w.heap.size) (hne : k ≠ g) : (grow (putRow enc (Sort.ahead w m) g 0 d) os).heap[k]? = w.heap[k]? := by
  rw [heap_grow_old _ _ (by simpa using hk)]
  simp [putRow, mapBlock, Sort.ahead, Array.getElem?_modify, Ne.symm hne]
theorem putW_below {B : Nat} (hB : B ≤ g) (hg : g < w.heap.size) : RowKit.Below B w (grow (putRow enc (Sort.ahead w m) g 0 d) os) :=
  ⟨rfl, rfl, rfl, putW_size, fun k hk => putW_block (by omega) (by omega)⟩
theorem putW_at (hg : g < w.heap.size) (hH : Holds enc w g 0 d0) (hs : d.size = d0.size) {j : Nat} (hj : j < d.size) :
    (grow (putRow enc (Sort.ahead w m) g 0 d) os).cell? ⟨g, j, none⟩ = some (enc d[j]!) ∧ (grow (putRow enc (Sort.ahead w m) g 0 d) os).frozen? ⟨g, j, none⟩ = false := by
  rw [cell?_grow _ _ _ (by simpa using hg), frozen?_grow _ _ _ (by simpa using hg), frozen?_putRow]
  have hH' : Holds enc (Sort.ahead w m) g 0 d0 := hH
  have h1 := cell?_putRow enc (Sort.ahead w m) g 0 d0 d hH' hs j hj
  have h2 := (hH' j (by omega)).2
  rw [Nat.zero_add] at h1 h2
  exact ⟨h1, h2⟩
end
theorem holds_of {w : World} {lo hi g n : Nat} {xs : List Int} (h : Wr w lo hi (some ⟨g, 0, none⟩) n (xs.map i64)) (hn : 0 < n) : Holds (Value.int .i64) w g 0 xs.toArray ∧ lo ≤ g ∧ g < hi ∧ g < w.heap.size := by
  obtain ⟨ad, e, h1, h2, h3, hc⟩ := h.2 hn
  injection e with e; subst e
  refine ⟨fun j hj => ?_, h1, h2, h3⟩
  have hj' : j < xs.length := by simpa using hj
  have := hc j (i64 xs[j]) (by rw [List.getElem?_map, List.getElem?_eq_getElem hj']; rfl)
  rw [head_add] at this
  rw [Nat.zero_add]
  have e : xs.toArray[j]! = xs[j] := by simp [hj']
  rw [e]; exact this
theorem grow_none (w : World) : grow w #[] = w := by simp [grow]
theorem wr_put {w : World} {lo hi g n m k : Nat} {xs ys : List Int} {os : Array Obj} (h : Wr w lo hi (some ⟨g, 0, none⟩) n (xs.map i64)) (hn : 0 < n) (hl : ys.length = n) (hk : k ≤ n) : Wr (grow (putRow (Value.int .i64) (Sort.ahead w m) g 0 ys.toArray) os) lo hi (some ⟨g, 0, none⟩) k ((ys.take k).map i64) := by
  obtain ⟨hH, h1, h2, h3⟩ := holds_of h hn
  have hxl : xs.length = n := by have := h.1; simpa using this
  refine ⟨by simp [hl]; omega, fun _ => ⟨_, rfl, h1, h2, Nat.lt_of_lt_of_le h3 putW_size, fun j v hj => ?_⟩⟩
  rw [List.getElem?_map] at hj
  obtain ⟨y, hy, rfl⟩ := Option.map_eq_some_iff.1 hj
  rw [List.getElem?_take] at hy
  split at hy
  · rw [head_add]
    have hjl := (List.getElem?_eq_some_iff.1 hy).1
    have := putW_at (os := os) (m := m) h3 hH (d := ys.toArray) (by simp [hl, hxl]) (j := j) (by simpa using hjl)
    have e : ys.toArray[j]! = y := by
      have := (List.getElem?_eq_some_iff.1 hy).2
      simp [hjl, this]
    rw [e] at this; exact this
  · cases hy
def sortL (xs : List Int) : List Int := xs.mergeSort fun x y => decide (x ≤ y)
theorem sortL_len (xs : List Int) : (sortL xs).length = xs.length := List.length_mergeSort xs
theorem sortL_mem {xs : List Int} {y : Int} : y ∈ sortL xs ↔ y ∈ xs := (List.mergeSort_perm xs _).mem_iff
theorem compact_le (zs : List Int) : (Lib.compact zs).length ≤ zs.length := by
  unfold Lib.compact Lib.compactUpTo
  rw [List.length_map]
  have := List.length_filter_le (Lib.keeps zs.toArray) (List.range zs.length)
  simpa using this
theorem compact_mem {zs : List Int} {y : Int} : y ∈ Lib.compact zs ↔ y ∈ zs := by
  unfold Lib.compact Lib.compactUpTo
  rw [List.mem_map]
  constructor
  · rintro ⟨j, hj, rfl⟩
    have hj' : j < zs.length := by simpa using (List.mem_filter.1 hj).1
    simp only [List.getElem!_toArray]
    rw [List.getElem!_eq_getElem?_getD, List.getElem?_eq_getElem hj']
    exact List.getElem_mem hj'
  · intro hy
    obtain ⟨j, hj, rfl⟩ := List.mem_iff_getElem.1 hy
    clear hy
    induction j with
    | zero => exact ⟨0, List.mem_filter.2 ⟨by simpa using hj, by simp [Lib.keeps]⟩, by simp [hj]⟩
    | succ j ih =>
      by_cases he : zs.toArray[j + 1]! = zs.toArray[j + 1 - 1]!
      · obtain ⟨k, hk, e⟩ := ih (by omega)
        refine ⟨k, hk, e.trans ?_⟩
        have h1 : zs.toArray[j + 1]! = zs[j + 1] := by simp [hj]
        have h2 : zs.toArray[j + 1 - 1]! = zs[j] := by simp [show j < zs.length by omega]
        rw [← h1, ← h2, he]
      · exact ⟨j + 1, List.mem_filter.2 ⟨by simpa using hj, Lib.keeps_pos he⟩, by simp [hj]⟩
def normV (xs : List Int) : List Int := Lib.compact (sortL xs)
theorem normV_mem {xs : List Int} {y : Int} : y ∈ normV xs ↔ y ∈ xs := by rw [normV, compact_mem, sortL_mem]
theorem normV_len (xs : List Int) : (normV xs).length ≤ xs.length := by have := compact_le (sortL xs); rw [sortL_len] at this; exact this
theorem normV_nil (xs : List Int) : normV xs = [] ↔ xs = [] := by
  constructor
  · intro h; apply List.eq_nil_iff_forall_not_mem.2; intro y hy; rw [← normV_mem, h] at hy; cases hy
  · intro h; subst h; exact List.length_eq_zero_iff.1 (Nat.le_zero.1 (normV_len []))
theorem sortI_c (g n cp lo hi : Nat) (xs : List Int) (w : World) (h : Wr w lo hi (some ⟨g, 0, none⟩) n (xs.map i64)) (hn : n ≤ 1000000) :
    Calls Tryz.prog 70 #[.slice (some ⟨g, 0, none⟩) n cp] w fun e w' => e = .returned (.tuple #[]) ∧ Wr w' lo hi (some ⟨g, 0, none⟩) n ((sortL xs).map i64) ∧ Below lo w w' := by
  have hxl : xs.length = n := by have := h.1; simpa using this
  by_cases h0 : 0 < n
  · obtain ⟨hH, h1, h2, h3⟩ := holds_of h h0
    have hc := Tryz.slices_Sort_int g 0 cp xs w hH h3 (by omega)
    rw [hxl] at hc
    refine hc.mono ?_
    rintro e w' ⟨rfl, m, os, rfl⟩
    refine ⟨rfl, ?_, putW_below h1 h3⟩
    have := wr_put (k := n) (m := m) (os := os) (ys := sortL xs) h h0 (by rw [sortL_len, hxl]) (Nat.le_refl _)
    rw [List.take_of_length_le (by rw [sortL_len, hxl]; exact Nat.le_refl _)] at this
    exact this
  · obtain rfl : n = 0 := by omega
    obtain rfl : xs = [] := List.length_eq_zero_iff.1 hxl
    refine (Tryz.slices_Sort_int_none (some ⟨g, 0, none⟩) cp w).mono ?_
    rintro e w' ⟨rfl, rfl⟩
    exact ⟨rfl, by rw [show sortL [] = [] from List.length_eq_zero_iff.1 (sortL_len [])]; exact Wr.nil, Below.refl _ _⟩
theorem compactI_c (g n cp lo hi : Nat) (xs : List Int) (w : World) (h : Wr w lo hi (some ⟨g, 0, none⟩) n (xs.map i64)) (hn : n ≤ 1000000) (hc : n ≤ cp) :
    Calls Tryz.prog 71 #[.slice (some ⟨g, 0, none⟩) n cp] w fun e w' => e = .returned (.slice (some ⟨g, 0, none⟩) (Lib.compact xs).length cp) ∧ Wr w' lo hi (some ⟨g, 0, none⟩) (Lib.compact xs).length ((Lib.compact xs).map i64) ∧ Below lo w w' := by
  have hxl : xs.length = n := by have := h.1; simpa using this
  by_cases h0 : 0 < n
  · obtain ⟨hH, h1, h2, h3⟩ := holds_of h h0
    have hcc := Tryz.slices_Compact_int g 0 cp xs w hH (by omega) (by omega)
    rw [hxl] at hcc
    refine hcc.mono ?_
    rintro e w' ⟨rfl, q, rfl⟩
    have hle := compact_le xs
    have := wr_put (k := (Lib.compact xs).length) (m := q) (os := #[]) (ys := Lib.compact xs ++ List.replicate (n - (Lib.compact xs).length) 0) h h0 (by simp; omega) (by omega)
    rw [grow_none, List.take_left' rfl] at this
    have hb := putW_below (w := w) (m := q) (os := #[]) (enc := Value.int .i64) (d := (Lib.compact xs ++ List.replicate (n - (Lib.compact xs).length) 0).toArray) h1 h3
    rw [grow_none] at hb
    exact ⟨rfl, this, hb⟩
  · obtain rfl : n = 0 := by omega
    obtain rfl : xs = [] := List.length_eq_zero_iff.1 hxl
    refine (Tryz.slices_Compact_int_empty (some ⟨g, 0, none⟩) cp w).mono ?_
    rintro e w' ⟨rfl, rfl⟩
    exact ⟨rfl, Wr.nil, Below.refl _ _⟩
end Go.Proofs.YtebjpmmgdkepjaaGreatDoor
