/-
  Contracts of chapter 12: one step of a lambda term, the run, of the program.
-/
import Derived.Test.YtcanahpgkedcjaaC12s
import Derived.Test.YtcanahpgkedcjaaConcat
import Derived.Test.YtcanahpgkedcjaaMixB
namespace Go.Proofs.Ytcanahpgkedcjaa
open Go.RowKit

def itL (A : Option Addr) (n c : Nat) (xs : List (Int × Int)) : ItV := ⟨A, n, c, xs.flatMap enc2⟩
theorem rdVL {w : World} {g : Nat} {t : TypeId} {vs : Array Value} {its : List ItV} {n : Nat} (hg : Blk w g t vs) (hv : vs.toList = its.map hdV) (hn : its.length = n) (h : ∀ i ∈ its, Rd w i.A (i.n * 2) i.vs ∧ ∀ u ∈ i.vs, u.oneCell' = true) : RdV w 2 (some ⟨g, 0, none⟩) n its := by
  have hs : vs.size = n := by rw [← Array.length_toList, hv, List.length_map, hn]
  exact ⟨hg.rd (by rw [hv]; exact List.take_of_length_le (by rw [List.length_map]; omega)) (by omega), fun t ht => (h t ht).1, fun t ht => (h t ht).2⟩
theorem itL_ok {w : World} {A : Option Addr} {n c : Nat} {xs : List (Int × Int)} (h : Rd2 w A n xs) : Rd w (itL A n c xs).A ((itL A n c xs).n * 2) (itL A n c xs).vs ∧ ∀ u ∈ (itL A n c xs).vs, u.oneCell' = true := ⟨h, one_pairs xs⟩
set_option maxHeartbeats 4000000 in
set_option maxRecDepth 100000 in
theorem reduced_c (ad : Addr) (n cp : Nat) (c : List (Int × Int)) (k : Nat) (S : List (Int × Int)) (w : World) (h : Rd2 w (some ad) n c) (hnc : n ≤ cp) (hv : validL c = true) (hk : k < n) (hf : redB (c.drop k) = true) (hS : stepL c k = S) :
    Calls Try.prog 75 #[.slice (some ad) n cp, .int .i64 k] w fun e w' => ∃ A N cap, e = .returned (.slice A N cap) ∧ Wr w' w.heap.size w'.heap.size A (N * 2) (S.flatMap enc2) ∧ N ≤ 300000 ∧ N ≤ cap ∧ Below w.heap.size w w' := by
  have hl := h.len
  obtain ⟨hv1, hv2, hv3⟩ := validL_end hv
  rw [hl] at hv2 hv3
  obtain ⟨p, r, h1, h2, h3, h4, h5, h6, hp1, hr1⟩ := red_parts hv1 hf
  rw [hl] at h6
  obtain ⟨z, hz⟩ : ∃ z, k + 2 + p = z := ⟨_, rfl⟩
  obtain ⟨y, hy⟩ : ∃ y, z + r = y := ⟨_, rfl⟩
  rw [hz] at h2 h4 h5 h6
  rw [hy] at h5 h6
  have hkz : k + 2 < z := by omega
  have hzy : z < y := by omega
  obtain rfl : p = z - (k + 2) := by omega
  obtain rfl : r = y - z := by omega
  have hbd : bodyL c k = (c.drop (k + 2)).take (z - (k + 2)) := by rw [bodyL, h2]
  have har : argL c k = (c.drop z).take (y - z) := by rw [argL, h2, h5]
  obtain ⟨M, hM⟩ : ∃ M, openL ((c.drop z).take (y - z)) ((c.drop (k + 2)).take (z - (k + 2))) = M := ⟨_, rfl⟩
  have HS := Lib.hid (show c.take k ++ (M ++ c.drop y) = S by rw [← hS, stepL, hbd, har, hM, h2, h5])
  have HM := Lib.hid hM
  have hbl : ((c.drop (k + 2)).take (z - (k + 2))).length = z - (k + 2) := by rw [List.length_take, List.length_drop, hl]; omega
  have hal : ((c.drop z).take (y - z)).length = y - z := by rw [List.length_take, List.length_drop, hl]; omega
  have HVB := Lib.hid (show endP manyL ((c.drop (k + 2)).take (z - (k + 2))) 1 = some ((c.drop (k + 2)).take (z - (k + 2))).length by rw [hbl]; exact endP_take h1)
  have HVA := Lib.hid (show endP manyL ((c.drop z).take (y - z)) 1 = some ((c.drop z).take (y - z)).length by rw [hal]; exact endP_take h4)
  have HOB := Lib.hid (show ∀ x ∈ (c.drop (k + 2)).take (z - (k + 2)), okL x = true from fun x hx => validL_ok hv x (List.mem_of_mem_drop (List.mem_of_mem_take hx)))
  have HOA := Lib.hid (show ∀ x ∈ (c.drop z).take (y - z), okL x = true from fun x hx => validL_ok hv x (List.mem_of_mem_drop (List.mem_of_mem_take hx)))
  have HE1 := Lib.hid (show resE manyL c (k + 1) 1 = (z : Int) by rw [resE_some h3]; omega)
  have HE2 := Lib.hid (show resE manyL c z 1 = (y : Int) by rw [resE_some h4]; omega)
  have HL := Lib.hid hl
  obtain ⟨_, e, hab, _⟩ := h.2 (by omega)
  injection e with e; subst e
  have H := Lib.hid h
  clear h hv hv1 hl hf hS h1 h2 h3 h4 h5 hz hy hbd har hM hbl hal
  have v1 : IntKind.i64.wrap ((k : Int) + 1) = ((k + 1 : Nat) : Int) := by rw [IntWalk.i64_in _ (by omega)]; omega
  have v2 : IntKind.i64.wrap ((k : Int) + 2) = ((k + 2 : Nat) : Int) := by rw [IntWalk.i64_in _ (by omega)]; omega
  have hkc : k ≤ cp := by omega
  have hzc : z ≤ cp := by omega
  have hyc : y ≤ cp := by omega
  have hk2z : k + 2 ≤ z := by omega
  have hzy' : z ≤ y := by omega
  have hkc2 : k + 2 < cp := by omega
  have hzc2 : z < cp := by omega
  go_enter Try.func75, Try.ntmps75
  go_wp2_with fail
  refine (lamEnd_c _ _ _ c (k + 1) z w H.out (by omega) (by omega) HE1.out).mono ?_
  rintro e w1 ⟨rfl, hb1⟩
  have B1 := Lib.hid hb1
  have H1 := Lib.hid (H.out.below hb1)
  clear hb1
  go_wp2_with fail
  refine (lamEnd_c _ _ _ c z y w1 H1.out (by omega) (by omega) HE2.out).mono ?_
  rintro e w2 ⟨rfl, hb2⟩
  have B2 := Lib.hid (below_chain B1.out B1.out.size hb2)
  have hz2 := B2.out.size
  clear hb2 H1
  obtain ⟨w3, hw3⟩ : ∃ w3, w2.alloc (.cells #[.slice (some (ad.add (z * 2))) (y - z) (cp - z)] 24) = w3 := ⟨_, rfl⟩
  have c3 := Lib.hid (show w3.cell? ⟨w2.heap.size, 0, none⟩ = some (.slice (some (ad.add (z * 2))) (y - z) (cp - z)) by rw [← hw3]; exact new_cell _ _ _ 0)
  have B3 := Lib.hid (show Below w.heap.size w w3 by rw [← hw3]; exact B2.out.alloc hz2 _)
  have hz3 := B3.out.size
  have RB := Lib.hid (show Rd2 w3 (some (ad.add ((k + 2) * 2))) (z - (k + 2)) ((c.drop (k + 2)).take (z - (k + 2))) from (H.out.below B3.out).part (k + 2) (z - (k + 2)) (by omega))
  have RA := Lib.hid (show Rd2 w3 (some (ad.add (z * 2))) (y - z) ((c.drop z).take (y - z)) from (H.out.below B3.out).part z (y - z) (by omega))
  go_wp2_with fail
  refine (mapVarsR_c (.pointer (some ⟨w2.heap.size, 0, none⟩)) (opF ((c.drop z).take (y - z))) (y - z + 1) (ad.add ((k + 2) * 2)) (z - (k + 2)) (cp - (k + 2)) _ w3 RB.out (by rw [block_add]; omega) (by omega) (by omega) HOB.out HVB.out ?_).mono ?_
  · intro x d wz h0 hox hd hbz
    exact reduced1_c w2.heap.size (ad.add (z * 2)) (y - z) (cp - z) _ x d wz h0 hox hd (keepc hbz c3.out) (RA.out.below hbz) (by rw [block_add]; have := hbz.size; omega) (by omega) HOA.out HVA.out
  rw [show mapL (opF ((c.drop z).take (y - z))) ((c.drop (k + 2)).take (z - (k + 2))) [0] = M from HM.out]
  rintro e w5 ⟨A5, c5, rfl, hw5, hl5, hc5, hb5⟩
  have B5 := Lib.hid (below_chain B3.out hz3 hb5)
  have R5 := Lib.hid (show Rd2 w5 A5 M.length M from hw5.rd)
  have hM5 : M.length ≤ 200000 := by have := Nat.mul_le_mul (show z - (k + 2) ≤ 400 by omega) (show y - z + 1 ≤ 401 by omega); omega
  clear hw5 hb5 hl5 c3
  by_cases hyp : y < cp
  · have RZ : ∀ o, Rd2 ((w5.alloc o).drew) (some (ad.add (y * 2))) (n - y) (c.drop y) := fun o => by
      have h1 := (H.out.below (below_drew (B5.out.alloc B5.out.size o))).part y (n - y) (by omega)
      rwa [List.take_of_length_le (by rw [List.length_drop, HL.out]; exact Nat.le_refl _)] at h1
    go_wp2_with fail
    have HRV := Lib.hid (show RdV (w5.alloc (.cells #[.slice (some ad) k cp, .slice A5 M.length c5, .slice (some (ad.add (y * 2))) (n - y) (cp - y)] 24)).drew 2 (some ⟨w5.heap.size, 0, none⟩) 3 [itL (some ad) k cp (c.take k), itL A5 M.length c5 M, itL (some (ad.add (y * 2))) (n - y) (cp - y) (c.drop y)] from
      rdVL ((Blk.new _ _ _).drew) (by simp [hdV, itL]) rfl (fun i hi => by
        simp only [List.mem_cons, List.not_mem_nil, or_false] at hi
        rcases hi with rfl | rfl | rfl
        · exact itL_ok ((H.out.below (below_drew (B5.out.alloc B5.out.size _))).upto k (by omega))
        · exact itL_ok (R5.out.below (below_drew (below_size.alloc (Nat.le_refl _) _)))
        · exact itL_ok (RZ _)))
    clear RZ
    refine Mix.wp_region_mix [0, 0, 0, 0, 0, 0, 0, 1, 1, 0] (fun w' => ∃ x : Ext w5, w' = x.w) (by kernel_rfl) (by kernel_rfl) (InExt.drew _) ?_
    repeat (first | (refine Mix.wpMix_read (by rfl) ?_; go_big_quiet_step (fail); refine wpQuiet_nil ?_) | (refine Mix.wpMix_pure (by rfl) ?_; go_big_quiet_step (fail); refine wpQuiet_nil ?_))
    refine Mix.wpMix_chg (by rfl) (fun K hK => ?_)
    go_wp2_with fail
    refine hK _ _ ⟨⟨_, below_drew (below_size.alloc (Nat.le_refl _) _)⟩, rfl⟩ ?_
    clear hK K
    refine Mix.wpMix_chg (by rfl) (fun K hK => ?_)
    go_wp2_with fail
    refine (concatLam_c _ 3 3 _ _ HRV.out (by omega) (by simp [sumV, itL]; omega)).mono ?_
    rintro e w6 ⟨A6, c6, rfl, hw6, hc6, hb6⟩
    obtain ⟨N, hN⟩ : ∃ N, sumV [itL (some ad) k cp (c.take k), itL A5 M.length c5 M, itL (some (ad.add (y * 2))) (n - y) (cp - y) (c.drop y)] = N := ⟨_, rfl⟩
    have hNb : N ≤ 300000 := by rw [← hN]; simp [sumV, itL]; omega
    rw [hN] at hw6 hc6
    rw [hN]
    have E6 := Lib.hid (up1 (below_of_drew hb6))
    have B6 := Lib.hid (below_chain B5.out B5.out.size E6.out)
    have W6 := Lib.hid (show Wr w6 w.heap.size w6.heap.size A6 (N * 2) (S.flatMap enc2) by
      rw [← HS.out]
      have h1 := hw6.wider (lo' := w.heap.size) (hi' := w6.heap.size) (by have := B5.out.size; simp; omega) (Nat.le_refl _)
      simpa [itL, List.flatMap_append, List.append_assoc] using h1)
    clear hw6 hb6 hN HRV
    go_wp2_with fail
    refine hK _ _ ⟨⟨_, E6.out⟩, rfl⟩ ?_
    clear hK K
    repeat (first | (refine Mix.wpMix_read (by rfl) ?_; go_big_quiet_step (fail); refine wpQuiet_nil ?_) | (refine Mix.wpMix_pure (by rfl) ?_; go_big_quiet_step (fail); refine wpQuiet_nil ?_))
    (refine Mix.wpMix_nil ?_; try simp only [Exit.then])
    go_wp2_with fail
    go_ret
    exact ⟨A6, N, c6, rfl, W6.out, hNb, hc6, B6.out⟩
  · obtain rfl : y = cp := by omega
    have RZ : ∀ o, Rd2 ((w5.alloc o).drew) (some ad) 0 (c.drop y) := fun o => by
      rw [List.drop_eq_nil_of_le (by rw [HL.out]; omega)]; exact Rd2.none0
    go_wp2_with fail
    have HRV := Lib.hid (show RdV (w5.alloc (.cells #[.slice (some ad) k y, .slice A5 M.length c5, .slice (some ad) 0 0] 24)).drew 2 (some ⟨w5.heap.size, 0, none⟩) 3 [itL (some ad) k y (c.take k), itL A5 M.length c5 M, itL (some ad) 0 0 (c.drop y)] from
      rdVL ((Blk.new _ _ _).drew) (by simp [hdV, itL]) rfl (fun i hi => by
        simp only [List.mem_cons, List.not_mem_nil, or_false] at hi
        rcases hi with rfl | rfl | rfl
        · exact itL_ok ((H.out.below (below_drew (B5.out.alloc B5.out.size _))).upto k (by omega))
        · exact itL_ok (R5.out.below (below_drew (below_size.alloc (Nat.le_refl _) _)))
        · exact itL_ok (RZ _)))
    clear RZ
    refine Mix.wp_region_mix [0, 0, 0, 0, 0, 0, 0, 1, 1, 0] (fun w' => ∃ x : Ext w5, w' = x.w) (by kernel_rfl) (by kernel_rfl) (InExt.drew _) ?_
    repeat (first | (refine Mix.wpMix_read (by rfl) ?_; go_big_quiet_step (fail); refine wpQuiet_nil ?_) | (refine Mix.wpMix_pure (by rfl) ?_; go_big_quiet_step (fail); refine wpQuiet_nil ?_))
    refine Mix.wpMix_chg (by rfl) (fun K hK => ?_)
    go_wp2_with fail
    refine hK _ _ ⟨⟨_, below_drew (below_size.alloc (Nat.le_refl _) _)⟩, rfl⟩ ?_
    clear hK K
    refine Mix.wpMix_chg (by rfl) (fun K hK => ?_)
    go_wp2_with fail
    refine (concatLam_c _ 3 3 _ _ HRV.out (by omega) (by simp [sumV, itL]; omega)).mono ?_
    rintro e w6 ⟨A6, c6, rfl, hw6, hc6, hb6⟩
    obtain ⟨N, hN⟩ : ∃ N, sumV [itL (some ad) k y (c.take k), itL A5 M.length c5 M, itL (some ad) 0 0 (c.drop y)] = N := ⟨_, rfl⟩
    have hNb : N ≤ 300000 := by rw [← hN]; simp [sumV, itL]; omega
    rw [hN] at hw6 hc6
    rw [hN]
    have E6 := Lib.hid (up1 (below_of_drew hb6))
    have B6 := Lib.hid (below_chain B5.out B5.out.size E6.out)
    have W6 := Lib.hid (show Wr w6 w.heap.size w6.heap.size A6 (N * 2) (S.flatMap enc2) by
      rw [← HS.out]
      have h1 := hw6.wider (lo' := w.heap.size) (hi' := w6.heap.size) (by have := B5.out.size; simp; omega) (Nat.le_refl _)
      simpa [itL, List.flatMap_append, List.append_assoc] using h1)
    clear hw6 hb6 hN HRV
    go_wp2_with fail
    refine hK _ _ ⟨⟨_, E6.out⟩, rfl⟩ ?_
    clear hK K
    repeat (first | (refine Mix.wpMix_read (by rfl) ?_; go_big_quiet_step (fail); refine wpQuiet_nil ?_) | (refine Mix.wpMix_pure (by rfl) ?_; go_big_quiet_step (fail); refine wpQuiet_nil ?_))
    (refine Mix.wpMix_nil ?_; try simp only [Exit.then])
    go_wp2_with fail
    go_ret
    exact ⟨A6, N, c6, rfl, W6.out, hNb, hc6, B6.out⟩
/-- a step's answer -/
def BsOut (c : List (Int × Int)) (F : Option Nat) (w : World) (e : Ending) (w' : World) : Prop := match F with
  | none => e = .returned (.tuple #[.slice none 0 0, .int .i64 6]) ∧ Below w.heap.size w w'
  | some k => if validL (stepL c k) = true then ∃ A N cap, e = .returned (.tuple #[.slice A N cap, .int .i64 0]) ∧ Wr w' w.heap.size w'.heap.size A (N * 2) ((stepL c k).flatMap enc2) ∧ (stepL c k).length = N ∧ N ≤ cap ∧ Below w.heap.size w w'
    else e = .returned (.tuple #[.slice none 0 0, .int .i64 5]) ∧ Below w.heap.size w w'
set_option maxHeartbeats 1000000 in
theorem checkedLam_c (A : Option Addr) (n cp : Nat) (c : List (Int × Int)) (q : Bool) (w : World) (h : Rd2 w A n c) (hn : n ≤ 1000000000) (hq : validL c = q) :
    Calls Try.prog 74 #[.slice A n cp] w fun e w' => e = .returned (if q = true then .tuple #[.slice A n cp, .int .i64 0] else .tuple #[.slice none 0 0, .int .i64 5]) ∧ Below w.heap.size w w' := by
  have H := Lib.hid h; have HQ := Lib.hid hq
  clear h hq
  cases q
  · go_enter Try.func74, Try.ntmps74
    go_wp2_with (go_at_call 37; refine (validLam_c _ _ _ c false _ H.out hn HQ.out).mono ?_; rintro e w2 ⟨rfl, hb2⟩)
    go_ret2
    exact ⟨rfl, hb2⟩
  · go_enter Try.func74, Try.ntmps74
    go_wp2_with (go_at_call 37; refine (validLam_c _ _ _ c true _ H.out hn HQ.out).mono ?_; rintro e w2 ⟨rfl, hb2⟩)
    go_ret2
    exact ⟨rfl, hb2⟩
set_option maxHeartbeats 4000000 in
set_option maxRecDepth 100000 in
theorem betaStep_c (ad : Addr) (n cp : Nat) (c : List (Int × Int)) (F : Option Nat) (w : World) (h : Rd2 w (some ad) n c) (hnc : n ≤ cp) (hv : validL c = true) (hF : redL c n 0 = F) :
    Calls Try.prog 38 #[.slice (some ad) n cp] w (BsOut c F w) := by
  obtain ⟨hv1, hv2, hv3⟩ := validL_end hv
  have hl := h.len
  rw [hl] at hv2 hv3
  have H := Lib.hid h; have HF := Lib.hid hF; have HV := Lib.hid hv
  clear h hF hv hv1 hl
  go_enter Try.func38, Try.ntmps38
  go_wp2_with (go_at_call 37; refine (validLam_c _ _ _ c true _ H.out (by omega) HV.out).mono ?_; rintro e w0 ⟨rfl, hb0⟩)
  have B0 := Lib.hid hb0
  have H0 := Lib.hid (H.out.below hb0)
  have hz0 := hb0.size
  clear hb0
  refine (redexAt_c _ _ cp c F w0 H0.out (by omega) HF.out).mono ?_
  rintro e w1 ⟨rfl, rfl⟩
  cases F with
  | none =>
    go_wp2_with fail
    go_ret2
    exact ⟨rfl, B0.out⟩
  | some k =>
    obtain ⟨_, hk, hr⟩ := redL_some HF.out
    have HR := Lib.hid hr
    have hkn : k < n := by omega
    have g0 : decide (((k : Nat) : Int) < 0) = false := decide_eq_false (by omega)
    obtain ⟨S, hS⟩ : ∃ S, stepL c k = S := ⟨_, rfl⟩
    obtain ⟨q, hq⟩ : ∃ q, validL S = q := ⟨_, rfl⟩
    have HS := Lib.hid hS; have HQ := Lib.hid hq
    clear hr hS hq hk
    go_wp2_with fail
    refine (reduced_c ad n cp c k S w0 H0.out hnc HV.out hkn HR.out HS.out).mono ?_
    rintro e w2 ⟨A2, N2, c2, rfl, hw2, hN2, hc2, hb2⟩
    have hl2 := len2_of hw2
    have W2 := Lib.hid hw2; have B2 := Lib.hid (below_chain B0.out hz0 hb2)
    have hz2 := hb2.size
    clear hw2 hb2
    go_wp2_with fail
    refine (checkedLam_c A2 N2 c2 S q w2 W2.out.rd (by omega) HQ.out).mono ?_
    rintro e w3 ⟨rfl, hb3⟩
    have B3 := Lib.hid (below_chain B2.out B2.out.size hb3)
    have W3 := Lib.hid ((W2.out.below hb3).wider hz0 hb3.size)
    clear hb3
    cases q
    · rw [if_neg (by simp)]
      go_wp2_with fail
      go_ret2
      show if validL (stepL c k) = true then _ else _
      rw [HS.out, if_neg (by rw [HQ.out]; simp)]
      exact ⟨rfl, B3.out⟩
    · rw [if_pos rfl]
      go_wp2_with fail
      go_ret2
      show if validL (stepL c k) = true then _ else _
      rw [HS.out, if_pos HQ.out]
      exact ⟨A2, N2, c2, rfl, W3.out, hl2, hc2, B3.out⟩
set_option maxRecDepth 100000 in
theorem cloneLam_c (ad : Addr) (n cp : Nat) (c : List (Int × Int)) (w : World) (h : Rd2 w (some ad) n c) (hn : n ≤ 1000000) :
    Calls Try.prog 67 #[.slice (some ad) n cp] w fun e w' => ∃ A' cap, e = .returned (.slice A' n cap) ∧ Wr w' w.heap.size w'.heap.size A' (n * 2) (c.flatMap enc2) ∧ n ≤ cap ∧ Below w.heap.size w w' := by
  have HC := Lib.hid (show Rd2 (w.alloc (.cells #[] 62)) (some ad) n c from h.alloc _)
  have he : ∀ w, (binOp BinOp.eql 24 (Value.slice (some ad) n cp) (Value.slice none 0 0)).run Try.prog w = .ok (.bool false) w := fun w => by kernel_rfl
  clear h
  go_enter Try.func67, Try.ntmps67
  go_wp2_with (at_builtin; refine wp_appLam (by rfl) _ _ (by rfl) w.heap.size (some ⟨w.heap.size, 0, none⟩) 0 0 [] (by rfl) (by exact Own.litK (Nat.le_refl _)) (some ad) n cp c (by rfl) (by exact HC.out) (by omega) (by simp) ?_; intro A1 c1 w1 own1 hb1 hk1 hg1 hz1)
  rw [Nat.zero_add, List.nil_append] at own1
  have O1 := Lib.hid own1; have B1 := Lib.hid ((below_size.alloc (Nat.le_refl _) (.cells #[] 62)).trans hb1)
  clear own1 hb1 hk1 hg1 hz1
  go_wp2_with fail
  go_ret
  exact ⟨A1, c1, by simp, O1.out.wrK, O1.out.cap, B1.out⟩
theorem budgetOkL_b (b : Int) (q : Bool) (hq : inB b 1 20000 = q) (w : World) : Calls Try.prog 58 #[.int .i64 b] w fun e w' => e = .returned (.bool q) ∧ w = w' := by
  subst hq
  go_enter Try.func58, Try.ntmps58
  go_wp2_with (go_at_call 62; refine (within_c _ _ _ _).mono ?_; rintro e w' ⟨rfl, rfl⟩)
  go_ret
  exact ⟨rfl, rfl⟩
set_option maxHeartbeats 4000000 in
set_option maxRecDepth 100000 in
theorem normalizedLam_c (A : Option Addr) (n cp : Nat) (c : List (Int × Int)) (b : Int) (q : Bool) (R : List (Int × Int) × Int × Bool × Int) (w : World) (h : Rd2 w A n c) (hv : validL c = q) (hR : rcL c b = R) :
    Calls Try.prog 36 #[.slice A n cp, .int .i64 b, .bool q, .func (.func 38) #[] #[]] w (RcOut R w) := by
  cases q
  · have HR := Lib.hid (show ([], 0, false, 1) = R by rw [← hR, rcL, if_pos hv])
    clear hv hR h
    go_enter Try.func36, Try.ntmps36
    go_wp2_with fail
    ((try simp only [Exit.inBlock, Exit.then]); refine bodyPost_ret (results_tmp4 rfl _ _ _) rfl ?_)
    rw [← HR.out]
    exact RcOut.bad 1 below_size
  cases hb : inB b 1 20000
  · have HR := Lib.hid (show ([], 0, false, 2) = R by rw [← hR, rcL, if_neg (by rw [hv]; simp), if_pos hb])
    clear hv hR h
    go_enter Try.func36, Try.ntmps36
    go_wp2_with (go_at_call 58; refine (budgetOkL_b _ _ (by assumption) _).mono ?_; rintro e w' ⟨rfl, rfl⟩)
    ((try simp only [Exit.inBlock, Exit.then]); refine bodyPost_ret (results_tmp4 rfl _ _ _) rfl ?_)
    rw [← HR.out]
    exact RcOut.bad 2 below_size
  have hb1 := inB_t hb
  obtain ⟨m, rfl⟩ : ∃ m : Nat, b = m := ⟨b.toNat, by omega⟩
  obtain ⟨hv1, hv2, hv3⟩ := validL_end hv
  have hl := h.len
  rw [hl] at hv2 hv3
  obtain ⟨ad, rfl, hab, _⟩ := h.2 (by omega)
  have HR := Lib.hid (show rcX (runL m c 0) = R by rw [← hR, rcL, if_neg (by rw [hv]; simp), if_neg (by rw [hb]; simp), show ((m : Int)).toNat = m by omega])
  have HV := Lib.hid hv; have H := Lib.hid h; have HL := Lib.hid hl
  clear hv hR h hv1 hl
  go_enter Try.func36, Try.ntmps36
  go_wp2_with (first | (go_at_call 58; refine (budgetOkL_b _ _ (by assumption) _).mono ?_; rintro e w' ⟨rfl, rfl⟩) | (go_at_call 67; refine (cloneLam_c ad n cp c _ H.out (by omega)).mono ?_; rintro e w1 ⟨A1, c1, rfl, hw1, hc1, hb1⟩))
  have W1 := Lib.hid hw1; have B1 := Lib.hid hb1
  clear hw1 hb1
  go_loopw [0, 12] (fun tv kv wr => ∃ (k : Nat) (A : Option Addr) (N cc : Nat) (t : List (Int × Int)), k ≤ m ∧ kv = .int .i64 k ∧ tv = .slice A N cc ∧ Hid (Wr wr w.heap.size wr.heap.size A (N * 2) (t.flatMap enc2)) ∧ Hid (t.length = N) ∧ N ≤ cc ∧ Hid (validL t = true) ∧ Hid (rcX (runL (m - k) t k) = R) ∧ Below w.heap.size w wr) (fun _ kv _ => m - (intOf kv).toNat)
  case atStart => exact ⟨0, A1, n, c1, c, by omega, rfl, rfl, W1.out, HL.out, hc1, HV.out, HR.out, B1.out⟩
  case round =>
    obtain ⟨k, A, N, cc, t, hk, rfl, rfl, hW, hN, hNc, hV, hr, hb⟩ := hrel
    have HB := Lib.hid hb
    have hwz := hb.size
    have hve := validL_end hV.out
    rw [hN.out] at hve
    have hN1 := hve.2.1
    have hN4 := hve.2.2
    have RD' : Rd2 wr A N t := hW.out.rd
    obtain ⟨ad2, rfl, _, _⟩ := RD'.2 (by omega)
    have RD := Lib.hid RD'
    obtain ⟨F, hF⟩ : ∃ F, redL t N 0 = F := ⟨_, rfl⟩
    have HF := Lib.hid hF
    have HS := Lib.hid (show rcX (runKL (m - k) t k F) = R by rw [← hr.out, runL_eq, hN.out, hF])
    have HC := Lib.hid (betaStep_c ad2 N cc t F wr RD' hNc hV.out hF)
    clear hr hF hb hve RD'
    cases F with
    | none =>
      have HG := Lib.hid (show (t, (k : Int), true, (0 : Int)) = R from HS.out)
      go_wp2_with (go_at_call 38; refine HC.out.mono ?_; rintro e w2 ⟨rfl, hb2⟩)
      ((try simp only [Exit.inBlock, Exit.then]); refine bodyPost_ret (results_tmp4 rfl _ _ _) rfl ?_)
      rw [← HG.out]
      exact ⟨_, _, _, rfl, (hW.out.below hb2).wider (Nat.le_refl _) hb2.size, by omega, below_chain HB.out HB.out.size hb2⟩
    | some j =>
      obtain ⟨S, hS⟩ : ∃ S, stepL t j = S := ⟨_, rfl⟩
      obtain ⟨q, hq⟩ : ∃ q, validL S = q := ⟨_, rfl⟩
      have HQ := Lib.hid hq
      have HG := Lib.hid (show rcX (if m - k = 0 then some (t, k, false) else if q = true then runL (m - k - 1) S (k + 1) else none) = R by rw [← HS.out, runKL, hS, hq])
      have HC2 : Calls Try.prog 38 #[.slice (some ad2) N cc] wr fun e w' => if q = true then ∃ A N cap, e = .returned (.tuple #[.slice A N cap, .int .i64 0]) ∧ Wr w' wr.heap.size w'.heap.size A (N * 2) (S.flatMap enc2) ∧ S.length = N ∧ N ≤ cap ∧ Below wr.heap.size wr w'
          else e = .returned (.tuple #[.slice none 0 0, .int .i64 5]) ∧ Below wr.heap.size wr w' := HC.out.mono fun e w' h => by
        have h' : if validL (stepL t j) = true then _ else _ := h
        rw [hS, hq] at h'; exact h'
      have HC3 := Lib.hid HC2
      clear hS hq HS HC HC2
      by_cases hkm : k = m
      · subst hkm
        have HG' := Lib.hid (show (t, (k : Int), false, (0 : Int)) = R by rw [← HG.out, if_pos (by omega)]; rfl)
        cases q
        · go_wp2_with (go_at_call 38; refine HC3.out.mono ?_; rintro e w2 ⟨rfl, hb2⟩)
          ((try simp only [Exit.inBlock, Exit.then]); refine bodyPost_ret (results_tmp4 rfl _ _ _) rfl ?_)
          rw [← HG'.out]
          exact ⟨_, _, _, rfl, (hW.out.below hb2).wider (Nat.le_refl _) hb2.size, by omega, below_chain HB.out HB.out.size hb2⟩
        · go_wp2_with (go_at_call 38; refine HC3.out.mono ?_; rintro e w2 ⟨A2, N2, c2, rfl, hw2, hl2, hc2, hb2⟩)
          ((try simp only [Exit.inBlock, Exit.then]); refine bodyPost_ret (results_tmp4 rfl _ _ _) rfl ?_)
          rw [← HG'.out]
          exact ⟨_, _, _, rfl, (hW.out.below hb2).wider (Nat.le_refl _) hb2.size, by omega, below_chain HB.out HB.out.size hb2⟩
      have g1 : ((k : Int) == (m : Int)) = false := by simp; omega
      cases q
      · have HG' := Lib.hid (show ([], (0 : Int), false, (5 : Int)) = R by rw [← HG.out, if_neg (by omega)]; rfl)
        go_wp2_with (go_at_call 38; refine HC3.out.mono ?_; rintro e w2 ⟨rfl, hb2⟩)
        ((try simp only [Exit.inBlock, Exit.then]); refine bodyPost_ret (results_tmp4 rfl _ _ _) rfl ?_)
        rw [← HG'.out]
        exact RcOut.bad 5 (below_chain HB.out HB.out.size hb2)
      · have HG' := Lib.hid (show rcX (runL (m - (k + 1)) S (k + 1)) = R by rw [← HG.out, if_neg (by omega), if_pos rfl, show m - k - 1 = m - (k + 1) by omega])
        go_wp2_with (go_at_call 38; refine HC3.out.mono ?_; rintro e w2 ⟨A2, N2, c2, rfl, hw2, hl2, hc2, hb2⟩)
        go_roundw
        case rel => exact ⟨k + 1, A2, N2, c2, S, by omega, by go_num, rfl, hw2.wider hwz (Nat.le_refl _), hl2, hc2, HQ.out, HG'.out, below_chain HB.out HB.out.size hb2⟩
        case measure => simp [intOf]; omega
theorem iNormalizeLam_c (A : Option Addr) (n cp : Nat) (c : List (Int × Int)) (b : Int) (w : World) (h : Rd2 w A n c) (hn : n ≤ 1000000000) :
    Calls Try.prog 10 #[.slice A n cp, .int .i64 b] w (RcOut (rcL c b) w) := by
  obtain ⟨R, hR⟩ : ∃ R, rcL c b = R := ⟨_, rfl⟩
  rw [hR]
  obtain ⟨q, hq⟩ : ∃ q, validL c = q := ⟨_, rfl⟩
  have H := Lib.hid h; have HR := Lib.hid hR; have HQ := Lib.hid hq
  clear h hR hq
  go_enter Try.func10, Try.ntmps10
  go_wp2_with (first | (go_at_call 37; refine (validLam_c _ _ _ c q _ H.out hn HQ.out).mono ?_; rintro e w1 ⟨rfl, hb1⟩) | (go_at_call 36; refine (normalizedLam_c _ _ _ c b q R _ (H.out.below hb1) HQ.out HR.out).mono ?_; rintro e w2 ⟨A2, N2, c2, rfl, hw2, hN2, hb2⟩))
  ((try simp only [Exit.inBlock, Exit.then]); refine bodyPost_ret (results_tmp4 rfl _ _ _) rfl ?_)
  exact ⟨_, _, _, rfl, hw2.wider hb1.size (Nat.le_refl _), hN2, below_chain hb1 hb1.size hb2⟩
end Go.Proofs.Ytcanahpgkedcjaa
