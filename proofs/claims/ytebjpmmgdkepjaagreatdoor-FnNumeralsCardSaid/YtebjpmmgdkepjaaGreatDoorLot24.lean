/-
  Parts of the proof, one behind the other: contracts of the functions that the law reaches, and plain laws.
-/
import Derived.Test.YtebjpmmgdkepjaaGreatDoorLot06
import Derived.Test.YtebjpmmgdkepjaaGreatDoorLot07
import Derived.Test.YtebjpmmgdkepjaaGreatDoorLot12
import Derived.Test.YtebjpmmgdkepjaaGreatDoorLot17
import Derived.Test.YtebjpmmgdkepjaaGreatDoorLot21
import Derived.Test.YtebjpmmgdkepjaaGreatDoorLot23
/-
  Contracts of chapter 12: one step of a lambda term, the run, of the program.
-/
namespace Go.Proofs.YtebjpmmgdkepjaaGreatDoor
open Go.RowKit

def itL (A : Option Addr) (n c : Nat) (xs : List (Int × Int)) : ItV := ⟨A, n, c, xs.flatMap enc2⟩
theorem rdVL {w : World} {g : Nat} {t : TypeId} {vs : Array Value} {its : List ItV} {n : Nat} (hg : Blk w g t vs) (hv : vs.toList = its.map hdV) (hn : its.length = n) (h : ∀ i ∈ its, Rd w i.A (i.n * 2) i.vs ∧ ∀ u ∈ i.vs, u.oneCell' = true) : RdV w 2 (some ⟨g, 0, none⟩) n its := by
  have hs : vs.size = n := by rw [← Array.length_toList, hv, List.length_map, hn]
  exact ⟨hg.rd (by rw [hv]; exact List.take_of_length_le (by rw [List.length_map]; omega)) (by omega), fun t ht => (h t ht).1, fun t ht => (h t ht).2⟩
theorem itL_ok {w : World} {A : Option Addr} {n c : Nat} {xs : List (Int × Int)} (h : Rd2 w A n xs) : Rd w (itL A n c xs).A ((itL A n c xs).n * 2) (itL A n c xs).vs ∧ ∀ u ∈ (itL A n c xs).vs, u.oneCell' = true := ⟨h, one_pairs xs⟩
set_option maxHeartbeats 4000000 in
set_option maxRecDepth 100000 in
theorem reduced_c (ad : Addr) (n cp : Nat) (c : List (Int × Int)) (k : Nat) (S : List (Int × Int)) (w : World) (h : Rd2 w (some ad) n c) (hnc : n ≤ cp) (hv : validL c = true) (hk : k < n) (hf : redB (c.drop k) = true) (hS : stepL c k = S) :
    Calls Tryz.prog 64 #[.slice (some ad) n cp, .int .i64 k] w fun e w' => ∃ A N cap, e = .returned (.slice A N cap) ∧ Wr w' w.heap.size w'.heap.size A (N * 2) (S.flatMap enc2) ∧ N ≤ 300000 ∧ N ≤ cap ∧ Below w.heap.size w w' := by
  have hl := h.len
  obtain ⟨hv1, hv2, hv3⟩ := validL_end hv
  rw [hl] at hv2 hv3
  obtain ⟨p, r, h1, h2, h3, h4, h5, h6, hp1, hr1⟩ := red_parts hv1 hf
  rw [hl] at h6
  obtain ⟨z, hz⟩ : ∃ z, k + 2 + p = z := ⟨_, rfl⟩
  obtain ⟨y, hy⟩ : ∃ y, z + r = y := ⟨_, rfl⟩
  rw [hz] at h2 h4 h5 h6
  rw [hy] at h5 h6
  have hkz : k + 2 < z := by omega
  have hzy : z < y := by omega
  obtain rfl : p = z - (k + 2) := by omega
  obtain rfl : r = y - z := by omega
  have hbd : bodyL c k = (c.drop (k + 2)).take (z - (k + 2)) := by rw [bodyL, h2]
  have har : argL c k = (c.drop z).take (y - z) := by rw [argL, h2, h5]
  obtain ⟨M, hM⟩ : ∃ M, openL ((c.drop z).take (y - z)) ((c.drop (k + 2)).take (z - (k + 2))) = M := ⟨_, rfl⟩
  have HS := Lib.hid (show c.take k ++ (M ++ c.drop y) = S by rw [← hS, stepL, hbd, har, hM, h2, h5])
  have HM := Lib.hid hM
  have hbl : ((c.drop (k + 2)).take (z - (k + 2))).length = z - (k + 2) := by rw [List.length_take, List.length_drop, hl]; omega
  have hal : ((c.drop z).take (y - z)).length = y - z := by rw [List.length_take, List.length_drop, hl]; omega
  have HVB := Lib.hid (show endP manyL ((c.drop (k + 2)).take (z - (k + 2))) 1 = some ((c.drop (k + 2)).take (z - (k + 2))).length by rw [hbl]; exact endP_take h1)
  have HVA := Lib.hid (show endP manyL ((c.drop z).take (y - z)) 1 = some ((c.drop z).take (y - z)).length by rw [hal]; exact endP_take h4)
  have HOB := Lib.hid (show ∀ x ∈ (c.drop (k + 2)).take (z - (k + 2)), okL x = true from fun x hx => validL_ok hv x (List.mem_of_mem_drop (List.mem_of_mem_take hx)))
  have HOA := Lib.hid (show ∀ x ∈ (c.drop z).take (y - z), okL x = true from fun x hx => validL_ok hv x (List.mem_of_mem_drop (List.mem_of_mem_take hx)))
  have HE1 := Lib.hid (show resE manyL c (k + 1) 1 = (z : Int) by rw [resE_some h3]; omega)
  have HE2 := Lib.hid (show resE manyL c z 1 = (y : Int) by rw [resE_some h4]; omega)
  have HL := Lib.hid hl
  obtain ⟨_, e, hab, _⟩ := h.2 (by omega)
  injection e with e; subst e
  have H := Lib.hid h
  clear h hv hv1 hl hf hS h1 h2 h3 h4 h5 hz hy hbd har hM hbl hal
  have v1 : IntKind.i64.wrap ((k : Int) + 1) = ((k + 1 : Nat) : Int) := by rw [IntWalk.i64_in _ (by omega)]; omega
  have v2 : IntKind.i64.wrap ((k : Int) + 2) = ((k + 2 : Nat) : Int) := by rw [IntWalk.i64_in _ (by omega)]; omega
  have hkc : k ≤ cp := by omega
  have hzc : z ≤ cp := by omega
  have hyc : y ≤ cp := by omega
  have hk2z : k + 2 ≤ z := by omega
  have hzy' : z ≤ y := by omega
  have hkc2 : k + 2 < cp := by omega
  have hzc2 : z < cp := by omega
  go_enter Tryz.func64, Tryz.ntmps64
  go_wp2_with fail
  refine (lamEnd_c _ _ _ c (k + 1) z w H.out (by omega) (by omega) HE1.out).mono ?_
  rintro e w1 ⟨rfl, hb1⟩
  have B1 := Lib.hid hb1
  have H1 := Lib.hid (H.out.below hb1)
  clear hb1
  go_wp2_with fail
  refine (lamEnd_c _ _ _ c z y w1 H1.out (by omega) (by omega) HE2.out).mono ?_
  rintro e w2 ⟨rfl, hb2⟩
  have B2 := Lib.hid (below_chain B1.out B1.out.size hb2)
  have hz2 := B2.out.size
  clear hb2 H1
  obtain ⟨w3, hw3⟩ : ∃ w3, w2.alloc (.cells #[.slice (some (ad.add (z * 2))) (y - z) (cp - z)] 25) = w3 := ⟨_, rfl⟩
  have c3 := Lib.hid (show w3.cell? ⟨w2.heap.size, 0, none⟩ = some (.slice (some (ad.add (z * 2))) (y - z) (cp - z)) by rw [← hw3]; exact new_cell _ _ _ 0)
  have B3 := Lib.hid (show Below w.heap.size w w3 by rw [← hw3]; exact B2.out.alloc hz2 _)
  have hz3 := B3.out.size
  have RB := Lib.hid (show Rd2 w3 (some (ad.add ((k + 2) * 2))) (z - (k + 2)) ((c.drop (k + 2)).take (z - (k + 2))) from (H.out.below B3.out).part (k + 2) (z - (k + 2)) (by omega))
  have RA := Lib.hid (show Rd2 w3 (some (ad.add (z * 2))) (y - z) ((c.drop z).take (y - z)) from (H.out.below B3.out).part z (y - z) (by omega))
  go_wp2_with fail
  refine (mapVarsR_c (.pointer (some ⟨w2.heap.size, 0, none⟩)) (opF ((c.drop z).take (y - z))) (y - z + 1) (ad.add ((k + 2) * 2)) (z - (k + 2)) (cp - (k + 2)) _ w3 RB.out (by rw [block_add]; omega) (by omega) (by omega) HOB.out HVB.out ?_).mono ?_
  · intro x d wz h0 hox hd hbz
    exact reduced1_c w2.heap.size (ad.add (z * 2)) (y - z) (cp - z) _ x d wz h0 hox hd (keepc hbz c3.out) (RA.out.below hbz) (by rw [block_add]; have := hbz.size; omega) (by omega) HOA.out HVA.out
  rw [show mapL (opF ((c.drop z).take (y - z))) ((c.drop (k + 2)).take (z - (k + 2))) [0] = M from HM.out]
  rintro e w5 ⟨A5, c5, rfl, hw5, hl5, hc5, hb5⟩
  have B5 := Lib.hid (below_chain B3.out hz3 hb5)
  have R5 := Lib.hid (show Rd2 w5 A5 M.length M from hw5.rd)
  have hM5 : M.length ≤ 200000 := by have := Nat.mul_le_mul (show z - (k + 2) ≤ 400 by omega) (show y - z + 1 ≤ 401 by omega); omega
  clear hw5 hb5 hl5 c3
  by_cases hyp : y < cp
  · have RZ : ∀ o, Rd2 ((w5.alloc o).drew) (some (ad.add (y * 2))) (n - y) (c.drop y) := fun o => by
      have h1 := (H.out.below (below_drew (B5.out.alloc B5.out.size o))).part y (n - y) (by omega)
      rwa [List.take_of_length_le (by rw [List.length_drop, HL.out]; exact Nat.le_refl _)] at h1
    go_wp2_with fail
    have HRV := Lib.hid (show RdV (w5.alloc (.cells #[.slice (some ad) k cp, .slice A5 M.length c5, .slice (some (ad.add (y * 2))) (n - y) (cp - y)] 25)).drew 2 (some ⟨w5.heap.size, 0, none⟩) 3 [itL (some ad) k cp (c.take k), itL A5 M.length c5 M, itL (some (ad.add (y * 2))) (n - y) (cp - y) (c.drop y)] from
      rdVL ((Blk.new _ _ _).drew) (by simp [hdV, itL]) rfl (fun i hi => by
        simp only [List.mem_cons, List.not_mem_nil, or_false] at hi
        rcases hi with rfl | rfl | rfl
        · exact itL_ok ((H.out.below (below_drew (B5.out.alloc B5.out.size _))).upto k (by omega))
        · exact itL_ok (R5.out.below (below_drew (below_size.alloc (Nat.le_refl _) _)))
        · exact itL_ok (RZ _)))
    clear RZ
    refine Mix.wp_region_mix [0, 0, 0, 0, 0, 0, 0, 1, 1, 0] (fun w' => ∃ x : Ext w5, w' = x.w) (by kernel_rfl) (by kernel_rfl) (InExt.drew _) ?_
    repeat (first | (refine Mix.wpMix_read (by rfl) ?_; go_big_quiet_step (fail); refine wpQuiet_nil ?_) | (refine Mix.wpMix_pure (by rfl) ?_; go_big_quiet_step (fail); refine wpQuiet_nil ?_))
    refine Mix.wpMix_chg (by rfl) (fun K hK => ?_)
    go_wp2_with fail
    refine hK _ _ ⟨⟨_, below_drew (below_size.alloc (Nat.le_refl _) _)⟩, rfl⟩ ?_
    clear hK K
    refine Mix.wpMix_chg (by rfl) (fun K hK => ?_)
    go_wp2_with fail
    refine (concatLam_c _ 3 3 _ _ HRV.out (by omega) (by simp [sumV, itL]; omega)).mono ?_
    rintro e w6 ⟨A6, c6, rfl, hw6, hc6, hb6⟩
    obtain ⟨N, hN⟩ : ∃ N, sumV [itL (some ad) k cp (c.take k), itL A5 M.length c5 M, itL (some (ad.add (y * 2))) (n - y) (cp - y) (c.drop y)] = N := ⟨_, rfl⟩
    have hNb : N ≤ 300000 := by rw [← hN]; simp [sumV, itL]; omega
    rw [hN] at hw6 hc6
    rw [hN]
    have E6 := Lib.hid (up1 (below_of_drew hb6))
    have B6 := Lib.hid (below_chain B5.out B5.out.size E6.out)
    have W6 := Lib.hid (show Wr w6 w.heap.size w6.heap.size A6 (N * 2) (S.flatMap enc2) by
      rw [← HS.out]
      have h1 := hw6.wider (lo' := w.heap.size) (hi' := w6.heap.size) (by have := B5.out.size; simp; omega) (Nat.le_refl _)
      simpa [itL, List.flatMap_append, List.append_assoc] using h1)
    clear hw6 hb6 hN HRV
    go_wp2_with fail
    refine hK _ _ ⟨⟨_, E6.out⟩, rfl⟩ ?_
    clear hK K
    repeat (first | (refine Mix.wpMix_read (by rfl) ?_; go_big_quiet_step (fail); refine wpQuiet_nil ?_) | (refine Mix.wpMix_pure (by rfl) ?_; go_big_quiet_step (fail); refine wpQuiet_nil ?_))
    (refine Mix.wpMix_nil ?_; try simp only [Exit.then])
    go_wp2_with fail
    go_ret
    exact ⟨A6, N, c6, rfl, W6.out, hNb, hc6, B6.out⟩
  · obtain rfl : y = cp := by omega
    have RZ : ∀ o, Rd2 ((w5.alloc o).drew) (some ad) 0 (c.drop y) := fun o => by
      rw [List.drop_eq_nil_of_le (by rw [HL.out]; omega)]; exact Rd2.none0
    go_wp2_with fail
    have HRV := Lib.hid (show RdV (w5.alloc (.cells #[.slice (some ad) k y, .slice A5 M.length c5, .slice (some ad) 0 0] 25)).drew 2 (some ⟨w5.heap.size, 0, none⟩) 3 [itL (some ad) k y (c.take k), itL A5 M.length c5 M, itL (some ad) 0 0 (c.drop y)] from
      rdVL ((Blk.new _ _ _).drew) (by simp [hdV, itL]) rfl (fun i hi => by
        simp only [List.mem_cons, List.not_mem_nil, or_false] at hi
        rcases hi with rfl | rfl | rfl
        · exact itL_ok ((H.out.below (below_drew (B5.out.alloc B5.out.size _))).upto k (by omega))
        · exact itL_ok (R5.out.below (below_drew (below_size.alloc (Nat.le_refl _) _)))
        · exact itL_ok (RZ _)))
    clear RZ
    refine Mix.wp_region_mix [0, 0, 0, 0, 0, 0, 0, 1, 1, 0] (fun w' => ∃ x : Ext w5, w' = x.w) (by kernel_rfl) (by kernel_rfl) (InExt.drew _) ?_
    repeat (first | (refine Mix.wpMix_read (by rfl) ?_; go_big_quiet_step (fail); refine wpQuiet_nil ?_) | (refine Mix.wpMix_pure (by rfl) ?_; go_big_quiet_step (fail); refine wpQuiet_nil ?_))
    refine Mix.wpMix_chg (by rfl) (fun K hK => ?_)
    go_wp2_with fail
    refine hK _ _ ⟨⟨_, below_drew (below_size.alloc (Nat.le_refl _) _)⟩, rfl⟩ ?_
    clear hK K
    refine Mix.wpMix_chg (by rfl) (fun K hK => ?_)
    go_wp2_with fail
    refine (concatLam_c _ 3 3 _ _ HRV.out (by omega) (by simp [sumV, itL]; omega)).mono ?_
    rintro e w6 ⟨A6, c6, rfl, hw6, hc6, hb6⟩
    obtain ⟨N, hN⟩ : ∃ N, sumV [itL (some ad) k y (c.take k), itL A5 M.length c5 M, itL (some ad) 0 0 (c.drop y)] = N := ⟨_, rfl⟩
    have hNb : N ≤ 300000 := by rw [← hN]; simp [sumV, itL]; omega
    rw [hN] at hw6 hc6
    rw [hN]
    have E6 := Lib.hid (up1 (below_of_drew hb6))
    have B6 := Lib.hid (below_chain B5.out B5.out.size E6.out)
    have W6 := Lib.hid (show Wr w6 w.heap.size w6.heap.size A6 (N * 2) (S.flatMap enc2) by
      rw [← HS.out]
      have h1 := hw6.wider (lo' := w.heap.size) (hi' := w6.heap.size) (by have := B5.out.size; simp; omega) (Nat.le_refl _)
      simpa [itL, List.flatMap_append, List.append_assoc] using h1)
    clear hw6 hb6 hN HRV
    go_wp2_with fail
    refine hK _ _ ⟨⟨_, E6.out⟩, rfl⟩ ?_
    clear hK K
    repeat (first | (refine Mix.wpMix_read (by rfl) ?_; go_big_quiet_step (fail); refine wpQuiet_nil ?_) | (refine Mix.wpMix_pure (by rfl) ?_; go_big_quiet_step (fail); refine wpQuiet_nil ?_))
    (refine Mix.wpMix_nil ?_; try simp only [Exit.then])
    go_wp2_with fail
    go_ret
    exact ⟨A6, N, c6, rfl, W6.out, hNb, hc6, B6.out⟩
/-- a step's answer -/
def BsOut (c : List (Int × Int)) (F : Option Nat) (w : World) (e : Ending) (w' : World) : Prop := match F with
  | none => e = .returned (.tuple #[.slice none 0 0, .int .i64 6]) ∧ Below w.heap.size w w'
  | some k => if validL (stepL c k) = true then ∃ A N cap, e = .returned (.tuple #[.slice A N cap, .int .i64 0]) ∧ Wr w' w.heap.size w'.heap.size A (N * 2) ((stepL c k).flatMap enc2) ∧ (stepL c k).length = N ∧ N ≤ cap ∧ Below w.heap.size w w'
    else e = .returned (.tuple #[.slice none 0 0, .int .i64 5]) ∧ Below w.heap.size w w'
set_option maxHeartbeats 1000000 in
theorem checkedLam_c (A : Option Addr) (n cp : Nat) (c : List (Int × Int)) (q : Bool) (w : World) (h : Rd2 w A n c) (hn : n ≤ 1000000000) (hq : validL c = q) :
    Calls Tryz.prog 30 #[.slice A n cp] w fun e w' => e = .returned (if q = true then .tuple #[.slice A n cp, .int .i64 0] else .tuple #[.slice none 0 0, .int .i64 5]) ∧ Below w.heap.size w w' := by
  have H := Lib.hid h; have HQ := Lib.hid hq
  clear h hq
  cases q
  · go_enter Tryz.func30, Tryz.ntmps30
    go_wp2_with (go_at_call 27; refine (validLam_c _ _ _ c false _ H.out hn HQ.out).mono ?_; rintro e w2 ⟨rfl, hb2⟩)
    go_ret2
    exact ⟨rfl, hb2⟩
  · go_enter Tryz.func30, Tryz.ntmps30
    go_wp2_with (go_at_call 27; refine (validLam_c _ _ _ c true _ H.out hn HQ.out).mono ?_; rintro e w2 ⟨rfl, hb2⟩)
    go_ret2
    exact ⟨rfl, hb2⟩
set_option maxHeartbeats 4000000 in
set_option maxRecDepth 100000 in
theorem betaStep_c (ad : Addr) (n cp : Nat) (c : List (Int × Int)) (F : Option Nat) (w : World) (h : Rd2 w (some ad) n c) (hnc : n ≤ cp) (hv : validL c = true) (hF : redL c n 0 = F) :
    Calls Tryz.prog 33 #[.slice (some ad) n cp] w (BsOut c F w) := by
  obtain ⟨hv1, hv2, hv3⟩ := validL_end hv
  have hl := h.len
  rw [hl] at hv2 hv3
  have H := Lib.hid h; have HF := Lib.hid hF; have HV := Lib.hid hv
  clear h hF hv hv1 hl
  go_enter Tryz.func33, Tryz.ntmps33
  go_wp2_with (go_at_call 27; refine (validLam_c _ _ _ c true _ H.out (by omega) HV.out).mono ?_; rintro e w0 ⟨rfl, hb0⟩)
  have B0 := Lib.hid hb0
  have H0 := Lib.hid (H.out.below hb0)
  have hz0 := hb0.size
  clear hb0
  refine (redexAt_c _ _ cp c F w0 H0.out (by omega) HF.out).mono ?_
  rintro e w1 ⟨rfl, rfl⟩
  cases F with
  | none =>
    go_wp2_with fail
    go_ret2
    exact ⟨rfl, B0.out⟩
  | some k =>
    obtain ⟨_, hk, hr⟩ := redL_some HF.out
    have HR := Lib.hid hr
    have hkn : k < n := by omega
    have g0 : decide (((k : Nat) : Int) < 0) = false := decide_eq_false (by omega)
    obtain ⟨S, hS⟩ : ∃ S, stepL c k = S := ⟨_, rfl⟩
    obtain ⟨q, hq⟩ : ∃ q, validL S = q := ⟨_, rfl⟩
    have HS := Lib.hid hS; have HQ := Lib.hid hq
    clear hr hS hq hk
    go_wp2_with fail
    refine (reduced_c ad n cp c k S w0 H0.out hnc HV.out hkn HR.out HS.out).mono ?_
    rintro e w2 ⟨A2, N2, c2, rfl, hw2, hN2, hc2, hb2⟩
    have hl2 := len2_of hw2
    have W2 := Lib.hid hw2; have B2 := Lib.hid (below_chain B0.out hz0 hb2)
    have hz2 := hb2.size
    clear hw2 hb2
    go_wp2_with fail
    refine (checkedLam_c A2 N2 c2 S q w2 W2.out.rd (by omega) HQ.out).mono ?_
    rintro e w3 ⟨rfl, hb3⟩
    have B3 := Lib.hid (below_chain B2.out B2.out.size hb3)
    have W3 := Lib.hid ((W2.out.below hb3).wider hz0 hb3.size)
    clear hb3
    cases q
    · rw [if_neg (by simp)]
      go_wp2_with fail
      go_ret2
      show if validL (stepL c k) = true then _ else _
      rw [HS.out, if_neg (by rw [HQ.out]; simp)]
      exact ⟨rfl, B3.out⟩
    · rw [if_pos rfl]
      go_wp2_with fail
      go_ret2
      show if validL (stepL c k) = true then _ else _
      rw [HS.out, if_pos HQ.out]
      exact ⟨A2, N2, c2, rfl, W3.out, hl2, hc2, B3.out⟩
set_option maxRecDepth 100000 in
theorem cloneLam_c (ad : Addr) (n cp : Nat) (c : List (Int × Int)) (w : World) (h : Rd2 w (some ad) n c) (hn : n ≤ 1000000) :
    Calls Tryz.prog 62 #[.slice (some ad) n cp] w fun e w' => ∃ A' cap, e = .returned (.slice A' n cap) ∧ Wr w' w.heap.size w'.heap.size A' (n * 2) (c.flatMap enc2) ∧ n ≤ cap ∧ Below w.heap.size w w' := by
  have HC := Lib.hid (show Rd2 (w.alloc (.cells #[] 62)) (some ad) n c from h.alloc _)
  have he : ∀ w, (binOp BinOp.eql 25 (Value.slice (some ad) n cp) (Value.slice none 0 0)).run Tryz.prog w = .ok (.bool false) w := fun w => by kernel_rfl
  clear h
  go_enter Tryz.func62, Tryz.ntmps62
  go_wp2_with (at_builtin; refine wp_appLam (by rfl) _ _ (by rfl) w.heap.size (some ⟨w.heap.size, 0, none⟩) 0 0 [] (by rfl) (by exact Own.litK (Nat.le_refl _)) (some ad) n cp c (by rfl) (by exact HC.out) (by omega) (by simp) ?_; intro A1 c1 w1 own1 hb1 hk1 hg1 hz1)
  rw [Nat.zero_add, List.nil_append] at own1
  have O1 := Lib.hid own1; have B1 := Lib.hid ((below_size.alloc (Nat.le_refl _) (.cells #[] 62)).trans hb1)
  clear own1 hb1 hk1 hg1 hz1
  go_wp2_with fail
  go_ret
  exact ⟨A1, c1, by simp, O1.out.wrK, O1.out.cap, B1.out⟩
theorem budgetOkL_b (b : Int) (q : Bool) (hq : inB b 1 20000 = q) (w : World) : Calls Tryz.prog 38 #[.int .i64 b] w fun e w' => e = .returned (.bool q) ∧ w = w' := by
  subst hq
  go_enter Tryz.func38, Tryz.ntmps38
  go_wp2_with (go_at_call 24; refine (within_c _ _ _ _).mono ?_; rintro e w' ⟨rfl, rfl⟩)
  go_ret
  exact ⟨rfl, rfl⟩
set_option maxHeartbeats 4000000 in
set_option maxRecDepth 100000 in
theorem normalizedLam_c (A : Option Addr) (n cp : Nat) (c : List (Int × Int)) (b : Int) (q : Bool) (R : List (Int × Int) × Int × Bool × Int) (w : World) (h : Rd2 w A n c) (hv : validL c = q) (hR : rcL c b = R) :
    Calls Tryz.prog 32 #[.slice A n cp, .int .i64 b, .bool q, .func (.func 33) #[] #[]] w (RcOut R w) := by
  cases q
  · have HR := Lib.hid (show ([], 0, false, 1) = R by rw [← hR, rcL, if_pos hv])
    clear hv hR h
    go_enter Tryz.func32, Tryz.ntmps32
    go_wp2_with fail
    ((try simp only [Exit.inBlock, Exit.then]); refine bodyPost_ret (results_tmp4 rfl _ _ _) rfl ?_)
    rw [← HR.out]
    exact RcOut.bad 1 below_size
  cases hb : inB b 1 20000
  · have HR := Lib.hid (show ([], 0, false, 2) = R by rw [← hR, rcL, if_neg (by rw [hv]; simp), if_pos hb])
    clear hv hR h
    go_enter Tryz.func32, Tryz.ntmps32
    go_wp2_with (go_at_call 38; refine (budgetOkL_b _ _ (by assumption) _).mono ?_; rintro e w' ⟨rfl, rfl⟩)
    ((try simp only [Exit.inBlock, Exit.then]); refine bodyPost_ret (results_tmp4 rfl _ _ _) rfl ?_)
    rw [← HR.out]
    exact RcOut.bad 2 below_size
  have hb1 := inB_t hb
  obtain ⟨m, rfl⟩ : ∃ m : Nat, b = m := ⟨b.toNat, by omega⟩
  obtain ⟨hv1, hv2, hv3⟩ := validL_end hv
  have hl := h.len
  rw [hl] at hv2 hv3
  obtain ⟨ad, rfl, hab, _⟩ := h.2 (by omega)
  have HR := Lib.hid (show rcX (runL m c 0) = R by rw [← hR, rcL, if_neg (by rw [hv]; simp), if_neg (by rw [hb]; simp), show ((m : Int)).toNat = m by omega])
  have HV := Lib.hid hv; have H := Lib.hid h; have HL := Lib.hid hl
  clear hv hR h hv1 hl
  go_enter Tryz.func32, Tryz.ntmps32
  go_wp2_with (first | (go_at_call 38; refine (budgetOkL_b _ _ (by assumption) _).mono ?_; rintro e w' ⟨rfl, rfl⟩) | (go_at_call 62; refine (cloneLam_c ad n cp c _ H.out (by omega)).mono ?_; rintro e w1 ⟨A1, c1, rfl, hw1, hc1, hb1⟩))
  have W1 := Lib.hid hw1; have B1 := Lib.hid hb1
  clear hw1 hb1
  go_loopw [0, 12] (fun tv kv wr => ∃ (k : Nat) (A : Option Addr) (N cc : Nat) (t : List (Int × Int)), k ≤ m ∧ kv = .int .i64 k ∧ tv = .slice A N cc ∧ Hid (Wr wr w.heap.size wr.heap.size A (N * 2) (t.flatMap enc2)) ∧ Hid (t.length = N) ∧ N ≤ cc ∧ Hid (validL t = true) ∧ Hid (rcX (runL (m - k) t k) = R) ∧ Below w.heap.size w wr) (fun _ kv _ => m - (intOf kv).toNat)
  case atStart => exact ⟨0, A1, n, c1, c, by omega, rfl, rfl, W1.out, HL.out, hc1, HV.out, HR.out, B1.out⟩
  case round =>
    obtain ⟨k, A, N, cc, t, hk, rfl, rfl, hW, hN, hNc, hV, hr, hb⟩ := hrel
    have HB := Lib.hid hb
    have hwz := hb.size
    have hve := validL_end hV.out
    rw [hN.out] at hve
    have hN1 := hve.2.1
    have hN4 := hve.2.2
    have RD' : Rd2 wr A N t := hW.out.rd
    obtain ⟨ad2, rfl, _, _⟩ := RD'.2 (by omega)
    have RD := Lib.hid RD'
    obtain ⟨F, hF⟩ : ∃ F, redL t N 0 = F := ⟨_, rfl⟩
    have HF := Lib.hid hF
    have HS := Lib.hid (show rcX (runKL (m - k) t k F) = R by rw [← hr.out, runL_eq, hN.out, hF])
    have HC := Lib.hid (betaStep_c ad2 N cc t F wr RD' hNc hV.out hF)
    clear hr hF hb hve RD'
    cases F with
    | none =>
      have HG := Lib.hid (show (t, (k : Int), true, (0 : Int)) = R from HS.out)
      go_wp2_with (go_at_call 33; refine HC.out.mono ?_; rintro e w2 ⟨rfl, hb2⟩)
      ((try simp only [Exit.inBlock, Exit.then]); refine bodyPost_ret (results_tmp4 rfl _ _ _) rfl ?_)
      rw [← HG.out]
      exact ⟨_, _, _, rfl, (hW.out.below hb2).wider (Nat.le_refl _) hb2.size, by omega, below_chain HB.out HB.out.size hb2⟩
    | some j =>
      obtain ⟨S, hS⟩ : ∃ S, stepL t j = S := ⟨_, rfl⟩
      obtain ⟨q, hq⟩ : ∃ q, validL S = q := ⟨_, rfl⟩
      have HQ := Lib.hid hq
      have HG := Lib.hid (show rcX (if m - k = 0 then some (t, k, false) else if q = true then runL (m - k - 1) S (k + 1) else none) = R by rw [← HS.out, runKL, hS, hq])
      have HC2 : Calls Tryz.prog 33 #[.slice (some ad2) N cc] wr fun e w' => if q = true then ∃ A N cap, e = .returned (.tuple #[.slice A N cap, .int .i64 0]) ∧ Wr w' wr.heap.size w'.heap.size A (N * 2) (S.flatMap enc2) ∧ S.length = N ∧ N ≤ cap ∧ Below wr.heap.size wr w'
          else e = .returned (.tuple #[.slice none 0 0, .int .i64 5]) ∧ Below wr.heap.size wr w' := HC.out.mono fun e w' h => by
        have h' : if validL (stepL t j) = true then _ else _ := h
        rw [hS, hq] at h'; exact h'
      have HC3 := Lib.hid HC2
      clear hS hq HS HC HC2
      by_cases hkm : k = m
      · subst hkm
        have HG' := Lib.hid (show (t, (k : Int), false, (0 : Int)) = R by rw [← HG.out, if_pos (by omega)]; rfl)
        cases q
        · go_wp2_with (go_at_call 33; refine HC3.out.mono ?_; rintro e w2 ⟨rfl, hb2⟩)
          ((try simp only [Exit.inBlock, Exit.then]); refine bodyPost_ret (results_tmp4 rfl _ _ _) rfl ?_)
          rw [← HG'.out]
          exact ⟨_, _, _, rfl, (hW.out.below hb2).wider (Nat.le_refl _) hb2.size, by omega, below_chain HB.out HB.out.size hb2⟩
        · go_wp2_with (go_at_call 33; refine HC3.out.mono ?_; rintro e w2 ⟨A2, N2, c2, rfl, hw2, hl2, hc2, hb2⟩)
          ((try simp only [Exit.inBlock, Exit.then]); refine bodyPost_ret (results_tmp4 rfl _ _ _) rfl ?_)
          rw [← HG'.out]
          exact ⟨_, _, _, rfl, (hW.out.below hb2).wider (Nat.le_refl _) hb2.size, by omega, below_chain HB.out HB.out.size hb2⟩
      have g1 : ((k : Int) == (m : Int)) = false := by simp; omega
      cases q
      · have HG' := Lib.hid (show ([], (0 : Int), false, (5 : Int)) = R by rw [← HG.out, if_neg (by omega)]; rfl)
        go_wp2_with (go_at_call 33; refine HC3.out.mono ?_; rintro e w2 ⟨rfl, hb2⟩)
        ((try simp only [Exit.inBlock, Exit.then]); refine bodyPost_ret (results_tmp4 rfl _ _ _) rfl ?_)
        rw [← HG'.out]
        exact RcOut.bad 5 (below_chain HB.out HB.out.size hb2)
      · have HG' := Lib.hid (show rcX (runL (m - (k + 1)) S (k + 1)) = R by rw [← HG.out, if_neg (by omega), if_pos rfl, show m - k - 1 = m - (k + 1) by omega])
        go_wp2_with (go_at_call 33; refine HC3.out.mono ?_; rintro e w2 ⟨A2, N2, c2, rfl, hw2, hl2, hc2, hb2⟩)
        go_roundw
        case rel => exact ⟨k + 1, A2, N2, c2, S, by omega, by go_num, rfl, hw2.wider hwz (Nat.le_refl _), hl2, hc2, HQ.out, HG'.out, below_chain HB.out HB.out.size hb2⟩
        case measure => simp [intOf]; omega
theorem iNormalizeLam_c (A : Option Addr) (n cp : Nat) (c : List (Int × Int)) (b : Int) (w : World) (h : Rd2 w A n c) (hn : n ≤ 1000000000) :
    Calls Tryz.prog 11 #[.slice A n cp, .int .i64 b] w (RcOut (rcL c b) w) := by
  obtain ⟨R, hR⟩ : ∃ R, rcL c b = R := ⟨_, rfl⟩
  rw [hR]
  obtain ⟨q, hq⟩ : ∃ q, validL c = q := ⟨_, rfl⟩
  have H := Lib.hid h; have HR := Lib.hid hR; have HQ := Lib.hid hq
  clear h hR hq
  go_enter Tryz.func11, Tryz.ntmps11
  go_wp2_with (first | (go_at_call 27; refine (validLam_c _ _ _ c q _ H.out hn HQ.out).mono ?_; rintro e w1 ⟨rfl, hb1⟩) | (go_at_call 32; refine (normalizedLam_c _ _ _ c b q R _ (H.out.below hb1) HQ.out HR.out).mono ?_; rintro e w2 ⟨A2, N2, c2, rfl, hw2, hN2, hb2⟩))
  ((try simp only [Exit.inBlock, Exit.then]); refine bodyPost_ret (results_tmp4 rfl _ _ _) rfl ?_)
  exact ⟨_, _, _, rfl, hw2.wider hb1.size (Nat.le_refl _), hN2, below_chain hb1 hb1.size hb2⟩
end Go.Proofs.YtebjpmmgdkepjaaGreatDoor
/-
  Lambda terms as combinator terms: the program's conversion.
-/
namespace Go.Proofs.YtebjpmmgdkepjaaGreatDoor
open Go.RowKit

/-- a combinator term, the place behind the term, whether there is one -/
def LtOut (o : Option LT) (z L : Nat) (w : World) (e : Ending) (w' : World) : Prop := (match o with
  | some c => ∃ A cap, e = .returned (.tuple #[.slice A c.length cap, .int .i64 (z : Int), .bool true]) ∧ Rd2 w' A c.length c ∧ c.length ≤ cap
  | none => ∃ A c cap z', e = .returned (.tuple #[.slice A c.length cap, .int .i64 z', .bool false]) ∧ Rd2 w' A c.length c ∧ c.length ≤ 1200 * L) ∧ Below w.heap.size w w'
set_option maxHeartbeats 8000000 in
set_option maxRecDepth 100000 in
theorem lamToComb_c (A : Option Addr) (n cp : Nat) (T : LT) (hn : n ≤ 400) {d : Nat} {u : LT} {o : Option LT} (hx : LcX d u o) : ∀ (k : Nat) (r : LT) (w : World), Rd2 w A n T → T.drop k = u ++ r → d + u.length ≤ 1000 →
    Calls Tryz.prog 36 #[.slice A n cp, .int .i64 k, .int .i64 d, .bool true] w (LtOut o (k + u.length) u.length w) := by
  have key : ∀ {k d : Nat} {x : Int × Int} {s : LT} {w : World}, Rd2 w A n T → T.drop k = x :: s → ∃ ad, A = some ad ∧ k < n ∧ w.cell? (ad.add (k * 2)) = some (i64 x.1) ∧ w.cell? ⟨(ad.add (k * 2)).block, (ad.add (k * 2)).off + 1, none⟩ = some (i64 x.2) := fun {k d x s w} h hd => by
    have hk : T[k]? = some x := by
      have := congrArg (fun l => l[0]?) hd
      simpa [List.getElem?_drop] using this
    have hkn : k < n := by have h9 := h.len; have := (List.getElem?_eq_some_iff.1 hk).1; omega
    obtain ⟨ad, x', e, _, hx', hc0, hc1⟩ := h.at_ hkn
    rw [hk] at hx'; injection hx' with hx'; subst hx'
    exact ⟨ad, e, hkn, hc0, hc1⟩
  induction hx with
  | @var d i h1 h2 =>
    intro k r w h hd hdl
    obtain ⟨ad, rfl, hkn, hc0, hc1⟩ := key (d := d) h hd
    simp only at hc0 hc1
    have hd1 : d ≤ 1000 := by omega
    have HV := Lib.hid (show ∀ v : Int, v = i - (d : Int) → ([(4, i - (d : Int))] : LT) = [(4, v)] from fun v e => by rw [e])
    clear h hd key hdl
    go_enter Tryz.func36, Tryz.ntmps36
    go_wp2_with fail
    refine (combVar_c _ _).mono ?_
    rintro e w2 ⟨rfl, rfl⟩
    go_wp2_with fail
    go_ret3
    refine ⟨⟨_, 1, rfl, ?_, by simp⟩, (below_size.alloc (Nat.le_refl _) _).alloc (by simp) _⟩
    have h9 := Rd2.lit (w := w.alloc (.cells #[.int .i64 0, .int .i64 i] 62)) (e := 100) (cs := #[.int .i64 4, .int .i64 (i - (d : Int))]) (xs := [(4, i - (d : Int))]) (n := 1) rfl rfl
    rw [World.size_alloc] at h9
    exact h9
  | @abs d t o hx ih =>
    intro k r w h hd hdl
    obtain ⟨ad, rfl, hkn, hc0, hc1⟩ := key (d := d) h hd
    simp only at hc0 hc1
    rw [List.length_cons] at hdl
    have hd2 : T.drop (k + 1) = t ++ r := by
      have h9 := congrArg List.tail hd
      rw [List.tail_drop] at h9; exact h9
    have E1 := Lib.hid (show Below w.heap.size w (w.alloc (.cells #[.int .i64 1, .int .i64 0] 62)) from below_size.alloc (Nat.le_refl _) _)
    have hz1 := E1.out.size
    have HI := Lib.hid (show ∀ ki di : Int, ki = ((k + 1 : Nat) : Int) → di = ((d + 1 : Nat) : Int) → Calls Tryz.prog 36 #[.slice (some ad) n cp, .int .i64 ki, .int .i64 di, .bool true] (w.alloc (.cells #[.int .i64 1, .int .i64 0] 62)) (LtOut o (k + 1 + t.length) t.length (w.alloc (.cells #[.int .i64 1, .int .i64 0] 62))) from fun ki di e1 e2 => by
      subst e1 e2; exact ih (k + 1) r (w.alloc (.cells #[.int .i64 1, .int .i64 0] 62)) (h.below E1.out) hd2 (by omega))
    have HCW := Lib.hid (hx.cw)
    obtain ⟨z, hz⟩ : ∃ z, k + 1 + t.length = z := ⟨_, rfl⟩
    have hzz : k + ((1, 0) :: t : LT).length = z := by rw [List.length_cons]; omega
    rw [hz] at HI
    rw [hzz]
    have hd1 : d ≤ 1000 := by omega
    clear h hd hd2 ih key hdl hx hz hzz
    go_enter Tryz.func36, Tryz.ntmps36
    go_wp2_with fail
    refine (HI.out _ _ (by push_cast; rfl) (by push_cast; rfl)).mono ?_
    cases o with
    | none =>
      rintro e w2 ⟨⟨A2, c2', c2, z', rfl, hr2, hl2⟩, hb2⟩
      have E2 := Lib.hid (E1.out.trans (hb2.mono hz1)); have R2 := Lib.hid hr2; have L2 := Lib.hid hl2
      clear hb2 hr2 hl2
      go_wp2_with fail
      go_ret3
      exact ⟨⟨_, _, _, _, rfl, R2.out, by have := L2.out; first | omega | (simp only [List.length_cons]; omega)⟩, E2.out⟩
    | some c =>
      obtain ⟨g1, g2, _⟩ := HCW.out c rfl
      rintro e w2 ⟨⟨A2, c2, rfl, hr2, hc2⟩, hb2⟩
      have E2 := Lib.hid (E1.out.trans (hb2.mono hz1)); have R2 := Lib.hid hr2; have hz2 := E2.out.size
      obtain ⟨U, hU⟩ : ∃ U, absC c.length (-1 - (d : Int)) c = U := ⟨_, rfl⟩
      have HO := Lib.hid (show absS d (some c) = if U.length ≤ 400 then some U else none by rw [absS, hU])
      have HAB := Lib.hid (fun (ki : Int) (e : ki = -1 - (d : Int)) => show Calls Tryz.prog 66 #[.int .i64 ki, .slice A2 c.length c2, .bool true] w2 (TmOut U U.length w2) by subst e; rw [← hU]; exact abstraction_c _ g1 g2 c.length A2 c.length c2 w2 R2.out hc2 (Nat.le_refl _))
      have hUl : U.length ≤ 1200 := by rw [← hU]; have := absC_len (k := -1 - (d : Int)) g1 c.length (Nat.le_refl _); omega
      clear hr2 hb2 hU
      go_wp2_with fail
      refine (HAB.out _ (by omega)).mono ?_
      rintro e w3 ⟨A3, c3, rfl, _, hw3, hc3, hb3⟩
      have E3 := Lib.hid (E2.out.trans (hb3.mono hz2)); have R3 := Lib.hid (show Rd2 w3 A3 U.length U from hw3.rd); have C3 := Lib.hid hc3
      clear hw3 hc3 hb3
      by_cases h4 : U.length ≤ 400
      · have gl : decide ((U.length : Int) ≤ 400) = true := decide_eq_true (by omega)
        go_wp2_with fail
        go_ret3
        rw [HO.out, if_pos h4]
        exact ⟨⟨A3, c3, rfl, R3.out, C3.out⟩, E3.out⟩
      · have gl : decide ((U.length : Int) ≤ 400) = false := decide_eq_false (by omega)
        go_wp2_with fail
        go_ret3
        rw [HO.out, if_neg h4]
        exact ⟨⟨_, U, _, _, rfl, R3.out, by first | omega | (simp only [List.length_cons]; omega)⟩, E3.out⟩
  | @app d a b o1 o2 hx1 hx2 ih1 ih2 =>
    intro k r w h hd hdl
    obtain ⟨ad, rfl, hkn, hc0, hc1⟩ := key (d := d) h hd
    simp only at hc0 hc1
    simp only [List.length_cons, List.length_append] at hdl
    have hd2 : T.drop (k + 1) = a ++ (b ++ r) := by
      have h9 := congrArg List.tail hd
      rw [List.tail_drop] at h9
      rw [h9]; exact List.append_assoc a b r
    obtain ⟨z1, hz1⟩ : ∃ z1, k + 1 + a.length = z1 := ⟨_, rfl⟩
    obtain ⟨z2, hz2⟩ : ∃ z2, z1 + b.length = z2 := ⟨_, rfl⟩
    have hd3 : T.drop z1 = b ++ r := by rw [← hz1, ← List.drop_drop, hd2, List.drop_left]
    have E1 := Lib.hid (show Below w.heap.size w (w.alloc (.cells #[.int .i64 2, .int .i64 0] 62)) from below_size.alloc (Nat.le_refl _) _)
    have hzw1 := E1.out.size
    have HI1 := Lib.hid (show ∀ ki : Int, ki = ((k + 1 : Nat) : Int) → Calls Tryz.prog 36 #[.slice (some ad) n cp, .int .i64 ki, .int .i64 d, .bool true] (w.alloc (.cells #[.int .i64 2, .int .i64 0] 62)) (LtOut o1 z1 a.length (w.alloc (.cells #[.int .i64 2, .int .i64 0] 62))) from fun ki e1 => by
      subst e1; rw [← hz1]; exact ih1 (k + 1) (b ++ r) (w.alloc (.cells #[.int .i64 2, .int .i64 0] 62)) (h.below E1.out) hd2 (by omega))
    have HI2 := Lib.hid (show ∀ w', Below w.heap.size w w' → Calls Tryz.prog 36 #[.slice (some ad) n cp, .int .i64 (z1 : Int), .int .i64 d, .bool true] w' (LtOut o2 z2 b.length w') from fun w' hb => by
      rw [← hz2]; exact ih2 z1 r w' (h.below hb) hd3 (by omega))
    have HC1 := Lib.hid (hx1.cw); have HC2 := Lib.hid (hx2.cw)
    have hal : a.length ≤ 400 ∧ b.length ≤ 400 := by
      have h9 := congrArg List.length hd
      rw [List.length_drop, h.len] at h9
      simp only [List.length_cons, List.length_append] at h9; omega
    have hzz : k + ((2, 0) :: (a ++ b) : LT).length = z2 := by simp only [List.length_cons, List.length_append]; omega
    rw [hzz]
    clear h hd hd2 hd3 ih1 ih2 key hdl hx1 hx2 hz1 hz2 hzz
    go_enter Tryz.func36, Tryz.ntmps36
    go_wp2_with fail
    refine (HI1.out _ (by push_cast; rfl)).mono ?_
    cases o1 with
    | none =>
      rintro e w2 ⟨⟨A2, c2', c2, z', rfl, hr2, hl2⟩, hb2⟩
      have E2 := Lib.hid (E1.out.trans (hb2.mono hzw1))
      clear hb2 hr2 hl2
      go_wp2_with fail
      go_ret3
      exact ⟨⟨none, [], 0, _, rfl, Rd2.none0, Nat.zero_le _⟩, E2.out⟩
    | some c =>
      obtain ⟨_, g2, _⟩ := HC1.out c rfl
      rintro e w2 ⟨⟨A2, c2, rfl, hr2, hc2⟩, hb2⟩
      have E2 := Lib.hid (E1.out.trans (hb2.mono hzw1)); have R2 := Lib.hid hr2; have hzw2 := E2.out.size
      clear hr2 hb2 hc2
      go_wp2_with fail
      refine (HI2.out _ E2.out).mono ?_
      cases o2 with
      | none =>
        rintro e w3 ⟨⟨A3, c', c3, z', rfl, hr3, hl3⟩, hb3⟩
        have E3 := Lib.hid (E2.out.trans (hb3.mono hzw2)); have R2b := Lib.hid (R2.out.below hb3); have hzw3 := E3.out.size; have R3 := Lib.hid hr3
        obtain ⟨U, hU⟩ : ∃ U, ((0, 0) :: (c ++ c') : LT) = U := ⟨_, rfl⟩
        have hUe : U.length = 1 + c.length + c'.length := by rw [← hU]; simp only [List.length_cons, List.length_append]; omega
        have hUl : U.length ≤ 900000 := by omega
        have HUL := Lib.hid (show U.length ≤ 1200 * ((2, 0) :: (a ++ b) : LT).length by simp only [List.length_cons, List.length_append]; omega)
        have HU := Lib.hid (show appCm c [c'] = U by rw [← hU]; simp [appCm])
        have E3b := Lib.hid (E3.out.alloc hzw3 (.cells #[.slice A3 c'.length c3] 37))
        clear hr3 hb3 hl3 hU hUe
        go_wp2_with fail
        refine (applyCombT_c A2 c.length c2 c (some ⟨w3.heap.size, 0, none⟩) 1 1 U.length [⟨A3, c3, c'⟩] U _ (R2b.out.alloc _) (tm1 R3.out) (by omega) HU.out rfl (by omega)).mono ?_
        rintro e w4 ⟨A4, c4, rfl, _, hw4, hc4, hb4⟩
        have E4 := Lib.hid (E3b.out.trans (hb4.mono E3b.out.size)); have R4 := Lib.hid (show Rd2 w4 A4 U.length U from hw4.rd); have C4 := Lib.hid hc4
        clear hw4 hc4 hb4
        go_wp2_with fail
        go_ret3
        exact ⟨⟨_, U, _, _, rfl, R4.out, HUL.out⟩, E4.out⟩
      | some c' =>
        obtain ⟨_, g2', _⟩ := HC2.out c' rfl
        rintro e w3 ⟨⟨A3, c3, rfl, hr3, hc3⟩, hb3⟩
        have E3 := Lib.hid (E2.out.trans (hb3.mono hzw2)); have R3 := Lib.hid hr3; have R2b := Lib.hid (R2.out.below hb3); have hzw3 := E3.out.size
        obtain ⟨U, hU⟩ : ∃ U, ((0, 0) :: (c ++ c') : LT) = U := ⟨_, rfl⟩
        have HO := Lib.hid (show appS2 (some c) (some c') = if U.length ≤ 400 then some U else none by rw [appS2, hU])
        have hUl : U.length ≤ 1200 := by rw [← hU]; simp only [List.length_cons, List.length_append]; omega
        have HU := Lib.hid (show appCm c [c'] = U by rw [← hU]; simp [appCm])
        have E3b := Lib.hid (E3.out.alloc hzw3 (.cells #[.slice A3 c'.length c3] 37))
        clear hr3 hb3 hc3 hU
        go_wp2_with fail
        refine (applyCombT_c A2 c.length c2 c (some ⟨w3.heap.size, 0, none⟩) 1 1 U.length [⟨A3, c3, c'⟩] U _ (R2b.out.alloc _) (tm1 R3.out) (by omega) HU.out rfl (by omega)).mono ?_
        rintro e w4 ⟨A4, c4, rfl, _, hw4, hc4, hb4⟩
        have E4 := Lib.hid (E3b.out.trans (hb4.mono E3b.out.size)); have R4 := Lib.hid (show Rd2 w4 A4 U.length U from hw4.rd); have C4 := Lib.hid hc4
        clear hw4 hc4 hb4
        by_cases h4 : U.length ≤ 400
        · have gl : decide ((U.length : Int) ≤ 400) = true := decide_eq_true (by omega)
          go_wp2_with fail
          go_ret3
          rw [HO.out, if_pos h4]
          exact ⟨⟨A4, c4, rfl, R4.out, C4.out⟩, E4.out⟩
        · have gl : decide ((U.length : Int) ≤ 400) = false := decide_eq_false (by omega)
          go_wp2_with fail
          go_ret3
          rw [HO.out, if_neg h4]
          exact ⟨⟨_, U, _, _, rfl, R4.out, by first | omega | (simp only [List.length_cons, List.length_append]; omega)⟩, E4.out⟩
end Go.Proofs.YtebjpmmgdkepjaaGreatDoor
/-
  Functions as terms: equal terms and the numbers of numerals, on both sides.
-/
namespace Go.Proofs.YtebjpmmgdkepjaaGreatDoor
open Go.RowKit

set_option maxHeartbeats 1000000 in
theorem l12Same_c (A B : Option Addr) (n m c d : Nat) (xs ys : List (Int × Int)) (q : Bool) (w : World) (h : Rd2 w A n xs) (h' : Rd2 w B m ys) (hn : n ≤ 1000000000) (hq : decide (xs = ys) = q) :
    Calls Tryz.prog 82 #[.slice A n c, .slice B m d] w fun e w' => e = .returned (.bool q) ∧ ∃ k, w' = w.drewN k := by
  have HL := Lib.hid h.len; have HL' := Lib.hid h'.len
  have H := Lib.hid h; have H' := Lib.hid h'; have HQ := Lib.hid hq; clear h h' hq
  by_cases hnm : n = m
  case neg =>
    have g1 : ((n : Int) != (m : Int)) = true := by simp; omega
    have HG := Lib.hid (show false = q by
      rw [← HQ.out, decide_eq_false]
      intro e; apply hnm; rw [← HL.out, ← HL'.out, e])
    go_enter Tryz.func82, Tryz.ntmps82
    go_wp2_with fail
    go_ret
    exact ⟨by rw [← HG.out]; rfl, 0, rfl⟩
  subst hnm
  go_enter Tryz.func82, Tryz.ntmps82
  go_wp2_with fail
  go_loopw [5] (fun iv wr => ∃ k : Nat, k ≤ n ∧ iv = .int .i64 k ∧ Hid (decide (xs.drop k = ys.drop k) = q) ∧ ∃ j, wr = w.drewN j) (fun iv _ => n - (intOf iv).toNat)
  case atStart => exact ⟨0, by omega, rfl, HQ.out, 0, rfl⟩
  case round =>
    obtain ⟨k, hk, rfl, hr, j, rfl⟩ := hrel
    by_cases hlt : k < n
    · obtain ⟨ad, x, rfl, _, hx, hc0, hc1⟩ := H.out.at_ hlt
      obtain ⟨ad', y, rfl, _, hy, hd0, hd1⟩ := H'.out.at_ hlt
      have hc0 : (w.drewN j).cell? (ad.add (k * 2)) = some (i64 x.1) := hc0
      have hc1 : (w.drewN j).cell? ⟨(ad.add (k * 2)).block, (ad.add (k * 2)).off + 1, none⟩ = some (i64 x.2) := hc1
      have hd0 : (w.drewN j).cell? (ad'.add (k * 2)) = some (i64 y.1) := hd0
      have hd1 : (w.drewN j).cell? ⟨(ad'.add (k * 2)).block, (ad'.add (k * 2)).off + 1, none⟩ = some (i64 y.2) := hd1
      obtain ⟨p, v⟩ := x
      obtain ⟨a, b⟩ := y
      have HS := Lib.hid (show decide ((p, v) :: xs.drop (k + 1) = (a, b) :: ys.drop (k + 1)) = q by rw [← hr.out, drop_at hx, drop_at hy])
      simp only at hc0 hc1 hd0 hd1
      clear hx hy hr
      rcases pair_cases p v a b with ⟨_, rfl, rfl⟩ | ⟨hne, hne2⟩
      · have HG := Lib.hid (show decide (xs.drop (k + 1) = ys.drop (k + 1)) = q by rw [← HS.out]; simp)
        go_wp2_with fail
        go_quiet (fail)
        go_wp2_with fail
        go_roundw
        case rel => exact ⟨k + 1, by omega, by go_num, HG.out, _, rfl⟩
        case measure => simp [intOf]; omega
      · have HG := Lib.hid (show false = q by
          rw [← HS.out, decide_eq_false]
          intro e; injection e with e _; exact hne e)
        rcases hne2 with g1 | ⟨rfl, g1⟩
        · go_wp2_with fail
          go_quiet (fail)
          go_wp2_with fail
          go_ret
          exact ⟨by rw [← HG.out]; rfl, _, by rw [World.drewN_drewN]⟩
        · go_wp2_with fail
          go_quiet (fail)
          go_wp2_with fail
          go_ret
          exact ⟨by rw [← HG.out]; rfl, _, by rw [World.drewN_drewN]⟩
    · have HG := Lib.hid (show true = q by rw [← hr.out, List.drop_eq_nil_of_le (by rw [HL.out]; omega), List.drop_eq_nil_of_le (by rw [HL'.out]; omega)]; rfl)
      go_wp2_with fail
      go_ret
      exact ⟨by rw [← HG.out]; rfl, _, rfl⟩
set_option maxHeartbeats 1000000 in
theorem l12Value_c (A : Option Addr) (n c : Nat) (t : LT) (w : World) (h : Rd2 w A n t) (hn : n ≤ 1000000) :
    Calls Tryz.prog 46 #[.slice A n c] w fun e w' => e = .returned (.int .i64 (nvL t)) ∧ Below w.heap.size w w' := by
  have hl := h.len
  obtain ⟨v, hv⟩ : ∃ v : Int, ((n : Int) - 3).tdiv 2 = v := ⟨_, rfl⟩
  have hvb : -1 ≤ v ∧ v ≤ 500000 := by
    rw [← hv]
    rcases Int.le_total 3 (n : Int) with h3 | h3
    · rw [Int.tdiv_eq_ediv_of_nonneg (by omega)]; omega
    · have : n = 0 ∨ n = 1 ∨ n = 2 ∨ n = 3 := by omega
      rcases this with rfl | rfl | rfl | rfl <;> decide
  have v0 : IntKind.i64.wrap ((n : Int) - 3) = (n : Int) - 3 := IntWalk.i64_in _ (by omega)
  have v1 : IntKind.i64.wrap v = v := IntWalk.i64_in _ (by omega)
  have HV := Lib.hid (show nvL t = if inB v 0 150 = true ∧ t = numLm v.toNat then v else -1 by rw [nvL, hl, hv])
  have H := Lib.hid h
  clear h
  cases hin : inB v 0 150
  · have HG := Lib.hid (show nvL t = -1 by rw [HV.out, if_neg (fun e => by rw [hin] at e; cases e.1)])
    rw [HG.out]
    go_enter Tryz.func46, Tryz.ntmps46
    go_wp2_with fail
    refine (l00In_b _ _ _ _ hin _).mono ?_
    rintro e w' ⟨rfl, rfl⟩
    go_wp2_with fail
    go_ret
    exact ⟨rfl, below_size⟩
  · have hb := inB_t hin
    obtain ⟨k, rfl⟩ : ∃ k : Nat, v = (k : Int) := ⟨v.toNat, by omega⟩
    obtain ⟨q, hq⟩ : ∃ q, decide (t = numLm k) = q := ⟨_, rfl⟩
    have HQ := Lib.hid hq
    have HG := Lib.hid (show nvL t = if q = true then (k : Int) else -1 by
      rw [HV.out, hin, ← hq, Int.toNat_natCast]
      simp)
    rw [HG.out]
    clear hq
    go_enter Tryz.func46, Tryz.ntmps46
    go_wp2_with fail
    refine (l00In_b _ _ _ _ hin _).mono ?_
    rintro e w' ⟨rfl, rfl⟩
    cases q
    · go_wp2_with fail
      refine (l12Numeral_c k _ (by omega)).mono ?_
      rintro e w1 ⟨A1, c1, rfl, hl1, hw1, hc1, hb1⟩
      have R1 := Lib.hid (show Rd2 w1 A1 (2 * k + 3) (numLm k) from hw1.rd); have B1 := Lib.hid hb1; have H1 := Lib.hid (H.out.below hb1)
      clear hl1 hw1 hc1 hb1
      go_wp2_with fail
      refine (l12Same_c A A1 n (2 * k + 3) c c1 t (numLm k) false w1 H1.out R1.out (by omega) HQ.out).mono ?_
      rintro e w2 ⟨rfl, j, rfl⟩
      go_wp2_with fail
      go_ret
      exact ⟨rfl, below_drewN B1.out j⟩
    · go_wp2_with fail
      refine (l12Numeral_c k _ (by omega)).mono ?_
      rintro e w1 ⟨A1, c1, rfl, hl1, hw1, hc1, hb1⟩
      have R1 := Lib.hid (show Rd2 w1 A1 (2 * k + 3) (numLm k) from hw1.rd); have B1 := Lib.hid hb1; have H1 := Lib.hid (H.out.below hb1)
      clear hl1 hw1 hc1 hb1
      go_wp2_with fail
      refine (l12Same_c A A1 n (2 * k + 3) c c1 t (numLm k) true w1 H1.out R1.out (by omega) HQ.out).mono ?_
      rintro e w2 ⟨rfl, j, rfl⟩
      go_wp2_with fail
      go_ret
      exact ⟨rfl, below_drewN B1.out j⟩
end Go.Proofs.YtebjpmmgdkepjaaGreatDoor
/-
  Functions as terms: the program's small functions (variables, abstractions, numerals, applications).
-/
namespace Go.Proofs.YtebjpmmgdkepjaaGreatDoor
open Go.RowKit

set_option maxHeartbeats 1000000 in
theorem appliedLam_c (x : Int × Int) (A : Option Addr) (n c : Nat) (xs : List (Int × Int)) (G : Option Addr) (m mc N : Nat) (its : List ItV) (w : World) (h : Rd2 w A n xs) (hG : RdV w 2 G m its) (hm : m ≤ 11) (hn : n ≤ 1000000) (hs : sumV its ≤ 1000000) (hN : m + n + sumV its = N) :
    Calls Tryz.prog 61 #[.agg #[.int .i64 x.1, .int .i64 x.2], .slice A n c, .slice G m mc] w (CatOut 2 N ((List.replicate m x).flatMap enc2 ++ xs.flatMap enc2 ++ its.flatMap ItV.vs) w) := by
  have H := Lib.hid h; have HG := Lib.hid hG; have HN := Lib.hid hN
  obtain ⟨VV, hVV⟩ : ∃ VV, (List.replicate m x).flatMap enc2 ++ xs.flatMap enc2 ++ its.flatMap ItV.vs = VV := ⟨_, rfl⟩
  rw [hVV]
  have HV := Lib.hid hVV
  clear h hG hN hVV
  have a0 : ((w.alloc (.cells #[.int .i64 x.1, .int .i64 x.2] 62)).alloc (.cells #[.int .i64 x.1, .int .i64 x.2] 62)).cell? ⟨w.heap.size + 1, 0, none⟩ = some (i64 x.1) := by
    have := new_cells2 (w := w) (.cells #[.int .i64 x.1, .int .i64 x.2] 62) (i64 x.1) (i64 x.2) 62 0 _ rfl; rwa [addrZ] at this
  have a1 : ((w.alloc (.cells #[.int .i64 x.1, .int .i64 x.2] 62)).alloc (.cells #[.int .i64 x.1, .int .i64 x.2] 62)).cell? ⟨w.heap.size + 1, 0 + 1, none⟩ = some (i64 x.2) := by
    have := new_cells2 (w := w) (.cells #[.int .i64 x.1, .int .i64 x.2] 62) (i64 x.1) (i64 x.2) 62 1 _ rfl; rwa [addr1] at this
  have A0 := Lib.hid a0; have A1 := Lib.hid a1
  clear a0 a1
  go_enter Tryz.func61, Tryz.ntmps61
  go_wp2_with fail
  refine (repeatLamM_c ⟨w.heap.size + 1, 0, none⟩ 1 x m _ A0.out A1.out hm).mono ?_
  rintro e w1 ⟨g1, rfl, hw1, hb1⟩
  have B1 := Lib.hid (up2 hb1)
  have W1 := Lib.hid (show Rd2 w1 (some ⟨g1, 0, none⟩) m (List.replicate m x) from hw1.wrK.rd)
  clear hw1 hb1 A0 A1
  go_wp2_with fail
  refine (concatLam_c G m mc its w1 (HG.out.below B1.out) (by omega) (by omega)).mono ?_
  rintro e w2 ⟨A2, c2, rfl, hw2, hc2, hb2⟩
  obtain ⟨M, hM⟩ : ∃ M, sumV its = M := ⟨_, rfl⟩
  rw [hM] at hw2 hc2 hs
  rw [hM]
  have HM := Lib.hid hM
  have B2 := Lib.hid (below_chain B1.out B1.out.size hb2)
  have W1' := Lib.hid (W1.out.below hb2); have W2 := Lib.hid hw2.rd
  have H2 := Lib.hid (H.out.below B2.out)
  have HRV := Lib.hid (show RdV (w2.alloc (.cells #[.slice (some ⟨g1, 0, none⟩) m m, .slice A n c, .slice A2 M c2] 25)) 2 (some ⟨w2.heap.size, 0, none⟩) 3 [itC (some ⟨g1, 0, none⟩) m m (List.replicate m x), itC A n c xs, ⟨A2, M, c2, its.flatMap ItV.vs⟩] from
    rdVC (Blk.new _ _ _) (by simp [hdV, itC]) rfl (fun i hi => by
      simp only [List.mem_cons, List.not_mem_nil, or_false] at hi
      rcases hi with rfl | rfl | rfl
      · exact itC_ok (W1'.out.alloc _)
      · exact itC_ok (H2.out.alloc _)
      · refine ⟨W2.out.alloc _, fun u hu => ?_⟩
        obtain ⟨t, ht, hu⟩ := List.mem_flatMap.1 hu
        exact HG.out.one t ht u hu))
  clear hw2 hb2 hM W1 W1' W2 H2
  go_wp2_with fail
  refine (concatLam_c _ 3 3 _ _ HRV.out (by omega) (by simp [sumV, itC]; omega)).mono ?_
  rintro e w3 ⟨A3, c3, rfl, hw3, hc3, hb3⟩
  have hS : sumV [itC (some ⟨g1, 0, none⟩) m m (List.replicate m x), itC A n c xs, (⟨A2, M, c2, its.flatMap ItV.vs⟩ : ItV)] = N := by simp [sumV, itC]; have := HN.out; have := HM.out; omega
  have hF : [itC (some ⟨g1, 0, none⟩) m m (List.replicate m x), itC A n c xs, (⟨A2, M, c2, its.flatMap ItV.vs⟩ : ItV)].flatMap ItV.vs = VV := by rw [← HV.out]; simp [itC]
  rw [hS, hF] at hw3
  rw [hS] at hc3
  rw [hS]
  have W3 := Lib.hid (hw3.wider (lo' := w.heap.size) (by have := B2.out.size; simp; omega) (Nat.le_refl _)); have B3 := Lib.hid (below_chain B2.out B2.out.size (up1 hb3))
  clear hw3 hb3 hS hF
  go_wp2_with fail
  go_ret
  exact ⟨A3, c3, rfl, W3.out, hc3, B3.out⟩
theorem applyLam_c (A : Option Addr) (n c : Nat) (t : LT) (G : Option Addr) (m mc N : Nat) (ps : List Tm) (w : World) (h : Rd2 w A n t) (hG : RdV w 2 G m (ps.map Tm.it)) (hm : m ≤ 11) (hn : n ≤ 100000) (hs : ((ps.map Tm.t).flatten).length ≤ 100000) (hN : m + n + ((ps.map Tm.t).flatten).length = N) :
    Calls Tryz.prog 31 #[.slice A n c, .slice G m mc] w (TmOut (appLm t (ps.map Tm.t)) N w) := by
  have hl := itLen hG
  have hln := h.len
  have HA := Lib.hid (appliedLam_c (2, 0) A n c t G m mc N (ps.map Tm.it) w h hG hm (by omega) (by rw [sumV_it]; omega) (by rw [sumV_it]; exact hN))
  clear h hG
  go_enter Tryz.func31, Tryz.ntmps31
  go_wp2_with fail
  refine HA.out.mono ?_
  rintro e w1 ⟨A1, c1, rfl, hw, hc, hb⟩
  have W := Lib.hid hw; have B := Lib.hid hb; have C := Lib.hid hc
  clear hw hb hc
  go_wp2_with fail
  go_ret
  refine ⟨A1, c1, rfl, by rw [appLm_len, List.length_map, hl, hln, hN], ?_, C.out, B.out⟩
  have h9 := W.out
  rw [flat_it] at h9
  rw [← appLm_enc, List.length_map, hl]
  exact h9
theorem lamVar_c (i : Int) (w : World) : Calls Tryz.prog 53 #[.int .i64 i] w fun e w' => e = .returned (.agg #[.int .i64 0, .int .i64 i]) ∧ Below w.heap.size w w' := by
  go_enter Tryz.func53, Tryz.ntmps53
  go_wp2_with fail
  refine bodyPost_ret (v := .agg #[.int .i64 0, .int .i64 i]) (by simp [results, Tryz.results53, go_sem]) rfl ⟨rfl, ?_⟩
  exact (by have hzz := ((below_size : Below w.heap.size w w)).size; repeat' (first | (with_reducible exact (below_size : Below w.heap.size w w)) | (with_reducible refine Below.alloc ?_ ?_ _) | (with_reducible refine Below.setCell ?_ ?_ _) | (with_reducible refine below_drew ?_) | omega | (simp; done) | (simp; omega)))
theorem abstract_c (n : Nat) (A : Option Addr) (m c : Nat) (t : LT) (w : World) (h : Rd2 w A m t) (hn : n ≤ 11) (hm : m ≤ 1000000) : Calls Tryz.prog 54 #[.int .i64 n, .slice A m c] w (TmOut (absLm n t) (n + m) w) := by
  have H := Lib.hid h; have hl := h.len
  have a0 : (w.alloc (.cells #[.int .i64 1, .int .i64 0] 62)).cell? ⟨w.heap.size, 0, none⟩ = some (i64 1) := new_cell _ _ _ 0
  have a1 : (w.alloc (.cells #[.int .i64 1, .int .i64 0] 62)).cell? ⟨w.heap.size, 0 + 1, none⟩ = some (i64 0) := new_cell _ _ _ 1
  have HC := Lib.hid (repeatLamM_c ⟨w.heap.size, 0, none⟩ 1 (1, 0) n (w.alloc (.cells #[.int .i64 1, .int .i64 0] 62)) a0 a1 hn)
  clear h a0 a1
  go_enter Tryz.func54, Tryz.ntmps54
  go_wp2_with fail
  refine HC.out.mono ?_
  rintro e w1 ⟨g1, rfl, ho1, hb1⟩
  have B1 := Lib.hid (up1 hb1); have O1 := Lib.hid (show Own w1 w.heap.size 62 2 (some ⟨g1, 0, none⟩) n n ((List.replicate n ((1 : Int), (0 : Int))).flatMap enc2) from ho1.widen (by simp))
  have H1 := Lib.hid (H.out.below B1.out)
  have hz1 := B1.out.size
  clear ho1 hb1
  go_wp2_with (at_builtin; refine wp_appLam (by rfl) _ _ (by rfl) w.heap.size (some ⟨g1, 0, none⟩) n n _ (by rfl) (by exact O1.out) A m c t (by rfl) (by exact H1.out) (by omega) hz1 ?_; intro A2 c2 w2 own2 hb2 hk2 hg2 hz2; have E2 := Lib.hid (B1.out.trans hb2); have O2 := Lib.hid own2; clear own2 hb2 hk2 hg2 hz2)
  go_ret
  refine ⟨A2, c2, rfl, by rw [absLm_len, hl], ?_, O2.out.cap, E2.out⟩
  have h9 := O2.out.wrK
  rw [absLm, List.flatMap_append]
  exact h9
end Go.Proofs.YtebjpmmgdkepjaaGreatDoor
