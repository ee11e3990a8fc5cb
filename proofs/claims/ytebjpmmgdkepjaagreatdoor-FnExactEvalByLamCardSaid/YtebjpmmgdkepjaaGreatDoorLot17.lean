/-
  Parts of the proof, one behind the other: contracts of the functions that the law reaches, and plain laws.
-/
import Derived.Test.YtebjpmmgdkepjaaGreatDoorLot15
import Derived.Test.YtebjpmmgdkepjaaGreatDoorLot16
/-
  Contracts of chapter 18: applications and numerals of the reference.
-/
namespace Go.Proofs.YtebjpmmgdkepjaaGreatDoor
open Go.RowKit

set_option maxHeartbeats 2000000 in
set_option maxRecDepth 100000 in
theorem l18Apply_c (A : Option Addr) (n c : Nat) (xs : List (Int × Int)) (G : Option Addr) (m mc N : Nat) (its : List ItV) (w : World) (h : Rd2 w A n xs) (hG : RdV w 2 G m its) (hm : m ≤ 1000) (hn : n ≤ 1000000) (hs : sumV its ≤ 1000000) (hN : m + n + sumV its = N) :
    Calls Tryz.prog 90 #[.slice A n c, .slice G m mc] w (CatOut 2 N ((List.replicate m ((0 : Int), (0 : Int))).flatMap enc2 ++ xs.flatMap enc2 ++ its.flatMap ItV.vs) w) := by
  have HL := Lib.hid hG.len
  have H := Lib.hid h; have HG := Lib.hid hG; have HN := Lib.hid hN
  have hNb : N ≤ 3000000 := by omega
  clear h hG hN
  have hmk : ∀ w, (Instr.makeSlice 37 (.int .i64 m) (.int .i64 m)).run Tryz.prog w = .ok (.slice (some ⟨w.heap.size, 0, none⟩) m m) (w.alloc (.cells (Array.replicate (m * 2) (.int .i64 0)) 100)) := fun w => run_mkK (P := Tryz.prog) 37 100 _ (.int .i64 0) 16 2 (by omega) Tryz.underlying37 info_pComb rfl .i64 .i64 m m (by omega) (by omega) (by omega) w
  have O0 := Lib.hid (show Own (w.alloc (.cells (Array.replicate (m * 2) (.int .i64 0)) 100)) w.heap.size 100 2 (some ⟨w.heap.size, 0, none⟩) m m ((List.replicate m ((0 : Int), (0 : Int))).flatMap enc2) from
    Own.fullK (Nat.le_refl _) (by rw [← repC2_full]; have := repC2_zero m (0, 0); rw [show repC2 m m (0, 0) = repC2 m 0 (0, 0) by simp [repC2], this]; simp) (by rw [flatX_len enc2 2 enc2_len]; simp) (by omega))
  have H0 := Lib.hid (show Rd2 (w.alloc (.cells (Array.replicate (m * 2) (.int .i64 0)) 100)) A n xs from H.out.alloc _)
  go_enter Tryz.func90, Tryz.ntmps90
  go_wp2_with (at_builtin; refine wp_appComb (by rfl) _ _ (by rfl) w.heap.size _ _ _ _ (by rfl) (by exact O0.out) A n c xs (by rfl) (by exact H0.out) (by omega) (by simp) ?_; intro A1 c1 w1 own1 hb1 hk1 hg1 hz1)
  have O1 := Lib.hid own1; have B1 := Lib.hid ((below_size.alloc (Nat.le_refl _) (.cells (Array.replicate (m * 2) (.int .i64 0)) 100)).trans hb1)
  clear own1 hb1 hk1 hg1 hz1 hmk O0 H0
  go_wp2_with fail
  go_loopw [5, 6] (fun ov iv wr => ∃ (j p oc : Nat) (O : Option Addr), j ≤ m ∧ iv = .int .i64 j ∧ ov = .slice O p oc ∧ p ≤ N ∧ Hid (p = m + n + sumV (its.take j)) ∧ Hid (Own wr w.heap.size 100 2 O p oc ((List.replicate m ((0 : Int), (0 : Int))).flatMap enc2 ++ xs.flatMap enc2 ++ (its.take j).flatMap ItV.vs)) ∧ Below w.heap.size w wr) (fun _ iv _ => m - (intOf iv).toNat)
  case atStart => exact ⟨0, m + n, c1, A1, by omega, rfl, rfl, by have := HN.out; omega, by simp [Hid, sumV], by unfold Hid; simpa using O1.out, B1.out⟩
  case round =>
    obtain ⟨j, p, oc, O, hj, rfl, rfl, hp, hr, hO, hb⟩ := hrel
    have HB := Lib.hid hb
    have hwz := hb.size
    by_cases hlt : j < m
    · obtain ⟨ad, t, rfl, ht, hc, hrd, hone⟩ := (HG.out.below hb).at_ hlt
      have HS := Lib.hid (sumV_take ht)
      have HT := Lib.hid (sumV_le (its := its) (k := j + 1))
      have hqt : p + t.n ≤ N := by have h1 := hr.out; have h2 := HS.out; have h3 := HT.out; have h4 := HN.out; omega
      have HR := Lib.hid (show p + t.n = m + n + sumV (its.take (j + 1)) by have h1 := hr.out; have h2 := HS.out; omega)
      have HF := Lib.hid (show (its.take (j + 1)).flatMap ItV.vs = (its.take j).flatMap ItV.vs ++ t.vs by rw [take_at ht]; simp)
      have ONE := Lib.hid hone; have RD := Lib.hid hrd
      have hcap := hO.out.cap
      clear ht hr hb hrd hone
      by_cases h0 : t.n = 0
      · have HV := Lib.hid (show t.vs = [] from List.length_eq_zero_iff.1 (by have := RD.out.1; rw [h0] at this; omega))
        obtain ⟨tA, tn, tc, tv⟩ := t
        simp only at h0 hc HS hqt HR HF HV
        subst h0
        go_wp2_with (at_builtin; refine wp_app0 (by rfl) _ _ 37 100 (.agg #[.int .i64 0, .int .i64 0]) 2 16 (by rfl) Tryz.underlying37 info_pComb O p oc (by rfl) hcap tA tc (by rfl) ?_)
        go_roundw
        case rel => exact ⟨j + 1, p, oc, O, by omega, by go_num, rfl, hp, HR.out, by unfold Hid; rw [HF.out, HV.out, List.append_nil]; exact hO.out, HB.out⟩
        case measure => simp [intOf]; omega
      · obtain ⟨ta, hta, htb, htc⟩ := RD.out.2 (by omega)
        have HTC := Lib.hid htc; have HTL := Lib.hid RD.out.1
        obtain ⟨tA, tn, tc, tv⟩ := t
        simp only at h0 hc HS hqt HR HF hta htb HTC HTL ONE
        subst hta
        clear htc RD
        go_wp2_with (at_builtin; refine wp_app (by rfl) _ _ 37 100 (.agg #[.int .i64 0, .int .i64 0]) 2 16 (by rfl) Tryz.underlying37 info_pComb rfl (by omega) w.heap.size O p oc _ (by rfl) (by exact hO.out) ta tn tc tv (by rfl) (by omega) HTL.out (by exact HTC.out) ONE.out (by omega) (by omega) hwz ?_; intro g' cap w3 own3 hb3 hk3 hg3 hz3)
        have O3 := Lib.hid own3
        have B3 := Lib.hid (HB.out.trans hb3)
        clear own3 hb3 hk3 hg3 hz3
        go_wp2_with fail
        go_roundw
        case rel => exact ⟨j + 1, p + tn, cap, some ⟨g', 0, none⟩, by omega, by go_num, rfl, hqt, HR.out, by unfold Hid; rw [HF.out, ← List.append_assoc]; exact O3.out, B3.out⟩
        case measure => simp [intOf]; omega
    · have e1 := Lib.hid (show its.take j = its from List.take_of_length_le (by rw [HL.out]; omega))
      have HP := Lib.hid (show p = N by rw [hr.out, e1.out, HN.out])
      clear hb hr
      go_wp2_with fail
      go_ret
      have h1 := hO.out
      rw [e1.out] at h1
      have hp2 := HP.out
      subst hp2
      exact ⟨O, oc, rfl, h1.wrK, h1.cap, HB.out⟩
/-- the number's value, or -1 -/
def cntI (o : List (Int × Int)) : Int := if cntR o = true then (((o.length - 1) / 2 : Nat) : Int) else -1
theorem pair_cases (a b x y : Int) : ((a, b) = (x, y) ∧ a = x ∧ b = y) ∨ ((a, b) ≠ (x, y) ∧ ((a == x) = false ∨ (a = x ∧ (b == y) = false))) := by
  by_cases ha : a = x
  · by_cases hb : b = y
    · subst ha; subst hb; exact .inl ⟨rfl, rfl, rfl⟩
    · exact .inr ⟨fun e => by injection e with _ e; exact hb e, .inr ⟨ha, by simpa using hb⟩⟩
  · exact .inr ⟨fun e => by injection e with e _; exact ha e, .inl (by simpa using ha)⟩
set_option maxHeartbeats 4000000 in
set_option maxRecDepth 100000 in
theorem l18Count_c (ad : Addr) (n cp : Nat) (c : List (Int × Int)) (R : Int) (w : World) (h : Rd2 w (some ad) n c) (hn : 1 ≤ n ∧ n ≤ 400) (hR : cntI c = R) :
    Calls Tryz.prog 93 #[.slice (some ad) n cp] w fun e w' => e = .returned (.int .i64 R) ∧ Below w.heap.size w w' := by
  have HL := Lib.hid h.len
  have H := Lib.hid h; have HR := Lib.hid hR; clear h hR
  by_cases hodd : n % 2 = 0
  · have HG := Lib.hid (show -1 = R by
      rw [← HR.out, cntI, if_neg]
      intro h; have := (cntR_odd h).1; rw [HL.out] at this; omega)
    have v1 : (n : Int).tmod 2 = 0 := by rw [Int.tmod_eq_emod_of_nonneg (by omega)]; omega
    go_enter Tryz.func93, Tryz.ntmps93
    go_wp2_with fail
    refine Mix.wp_region_mix [0, 0, 0, 0, 0, 0, 0, 0, 3, 1, 0, 1, 0, 0] (fun w' => ∃ x : Ext w, w' = x.w) (by kernel_rfl) (by kernel_rfl) (InExt.drew _) ?_
    repeat (first | (refine Mix.wpMix_read (by rfl) ?_; go_big_quiet_step (fail); refine wpQuiet_nil ?_) | (refine Mix.wpMix_pure (by rfl) ?_; go_big_quiet_step (fail); refine wpQuiet_nil ?_))
    repeat (refine Mix.wpMix_skip (by rfl) ?_; simp only [Act.put, List.setIfInBounds_toArray, List.set_cons_succ, List.set_cons_zero])
    repeat (first | (refine Mix.wpMix_read (by rfl) ?_; go_big_quiet_step (fail); refine wpQuiet_nil ?_) | (refine Mix.wpMix_pure (by rfl) ?_; go_big_quiet_step (fail); refine wpQuiet_nil ?_))
    (refine Mix.wpMix_nil ?_; try simp only [Exit.then])
    go_wp2_with fail
    go_ret
    exact ⟨by rw [← HG.out]; rfl, below_drew below_size⟩
  obtain ⟨n1, rfl⟩ : ∃ n1, n = n1 + 1 := ⟨n - 1, by omega⟩
  have v1 : (((n1 : Int) + 1) % 2 == 0) = false := by simp; omega
  have v2 : IntKind.i64.wrap ((n1 : Int) + 1 - 1) = (n1 : Int) := by rw [IntWalk.i64_in _ (by omega)]; omega
  obtain ⟨_, x, e, hab, hx, hc0, hc1⟩ := H.out.at_ (k := n1) (by omega)
  injection e with e; subst e
  obtain ⟨t, u⟩ := x
  simp only at hc0 hc1
  have HX := Lib.hid hx
  clear hx
  have z0 := Ext.cell hc0; have z1 := Ext.cell hc1
  rcases pair_cases t u 4 1 with ⟨_, rfl, rfl⟩ | ⟨hne, hne2⟩
  case inr =>
    have HG := Lib.hid (show -1 = R by
      rw [← HR.out, cntI, if_neg]
      intro h
      have h1 := (cntR_odd h).2
      rw [HL.out, Nat.add_sub_cancel, HX.out] at h1
      injection h1 with h1
      exact hne h1)
    rcases hne2 with g1 | ⟨rfl, g1⟩
    · go_enter Tryz.func93, Tryz.ntmps93
      go_wp2_with fail
      refine Mix.wp_region_mix [0, 0, 0, 0, 0, 0, 0, 0, 3, 1, 0, 1, 0, 0] (fun w' => ∃ x : Ext w, w' = x.w) (by kernel_rfl) (by kernel_rfl) (InExt.drew _) ?_
      repeat (first | (refine Mix.wpMix_read (by rfl) ?_; go_big_quiet_step (fail); refine wpQuiet_nil ?_) | (refine Mix.wpMix_pure (by rfl) ?_; go_big_quiet_step (fail); refine wpQuiet_nil ?_))
      refine Mix.wpMix_chg (by rfl) (fun K hK => ?_)
      go_wp2_with fail
      refine (l18Name_c 1 _).mono ?_
      rintro e w1 ⟨rfl, rfl⟩
      go_wp2_with fail
      refine hK _ _ ⟨⟨_, below_drew (below_size.alloc (Nat.le_refl _) _)⟩, rfl⟩ ?_
      clear hK K
      repeat (first | (refine Mix.wpMix_read (by rfl) ?_; go_big_quiet_step (fail); refine wpQuiet_nil ?_) | (refine Mix.wpMix_pure (by rfl) ?_; go_big_quiet_step (fail); refine wpQuiet_nil ?_))
      have b0 : (w.alloc (.cells #[.int .i64 4, .int .i64 1] 100)).drew.cell? ⟨w.heap.size, 0, none⟩ = some (.int .i64 4) := new_cell w _ _ 0
      have b1 : (w.alloc (.cells #[.int .i64 4, .int .i64 1] 100)).drew.cell? ⟨w.heap.size, 1, none⟩ = some (.int .i64 1) := new_cell w _ _ 1
      refine Mix.wpMix_chg (by rfl) (fun K hK => ?_)
      go_wp2_with fail
      refine hK _ _ ⟨⟨_, below_drew (below_size.alloc (Nat.le_refl _) _)⟩, rfl⟩ ?_
      clear hK K
      repeat (first | (refine Mix.wpMix_read (by rfl) ?_; go_big_quiet_step (fail); refine wpQuiet_nil ?_) | (refine Mix.wpMix_pure (by rfl) ?_; go_big_quiet_step (fail); refine wpQuiet_nil ?_))
      (refine Mix.wpMix_nil ?_; try simp only [Exit.then])
      go_wp2_with fail
      go_ret
      exact ⟨by rw [← HG.out]; rfl, below_drew (below_size.alloc (Nat.le_refl _) _)⟩
    · go_enter Tryz.func93, Tryz.ntmps93
      go_wp2_with fail
      refine Mix.wp_region_mix [0, 0, 0, 0, 0, 0, 0, 0, 3, 1, 0, 1, 0, 0] (fun w' => ∃ x : Ext w, w' = x.w) (by kernel_rfl) (by kernel_rfl) (InExt.drew _) ?_
      repeat (first | (refine Mix.wpMix_read (by rfl) ?_; go_big_quiet_step (fail); refine wpQuiet_nil ?_) | (refine Mix.wpMix_pure (by rfl) ?_; go_big_quiet_step (fail); refine wpQuiet_nil ?_))
      refine Mix.wpMix_chg (by rfl) (fun K hK => ?_)
      go_wp2_with fail
      refine (l18Name_c 1 _).mono ?_
      rintro e w1 ⟨rfl, rfl⟩
      go_wp2_with fail
      refine hK _ _ ⟨⟨_, below_drew (below_size.alloc (Nat.le_refl _) _)⟩, rfl⟩ ?_
      clear hK K
      repeat (first | (refine Mix.wpMix_read (by rfl) ?_; go_big_quiet_step (fail); refine wpQuiet_nil ?_) | (refine Mix.wpMix_pure (by rfl) ?_; go_big_quiet_step (fail); refine wpQuiet_nil ?_))
      have b0 : (w.alloc (.cells #[.int .i64 4, .int .i64 1] 100)).drew.cell? ⟨w.heap.size, 0, none⟩ = some (.int .i64 4) := new_cell w _ _ 0
      have b1 : (w.alloc (.cells #[.int .i64 4, .int .i64 1] 100)).drew.cell? ⟨w.heap.size, 1, none⟩ = some (.int .i64 1) := new_cell w _ _ 1
      refine Mix.wpMix_chg (by rfl) (fun K hK => ?_)
      go_wp2_with fail
      refine hK _ _ ⟨⟨_, below_drew (below_size.alloc (Nat.le_refl _) _)⟩, rfl⟩ ?_
      clear hK K
      repeat (first | (refine Mix.wpMix_read (by rfl) ?_; go_big_quiet_step (fail); refine wpQuiet_nil ?_) | (refine Mix.wpMix_pure (by rfl) ?_; go_big_quiet_step (fail); refine wpQuiet_nil ?_))
      (refine Mix.wpMix_nil ?_; try simp only [Exit.then])
      go_wp2_with fail
      go_ret
      exact ⟨by rw [← HG.out]; rfl, below_drew (below_size.alloc (Nat.le_refl _) _)⟩
  case inl =>
    go_enter Tryz.func93, Tryz.ntmps93
    go_wp2_with fail
    refine Mix.wp_region_mix [0, 0, 0, 0, 0, 0, 0, 0, 3, 1, 0, 1, 0, 0] (fun w' => ∃ x : Ext w, w' = x.w) (by kernel_rfl) (by kernel_rfl) (InExt.drew _) ?_
    repeat (first | (refine Mix.wpMix_read (by rfl) ?_; go_big_quiet_step (fail); refine wpQuiet_nil ?_) | (refine Mix.wpMix_pure (by rfl) ?_; go_big_quiet_step (fail); refine wpQuiet_nil ?_))
    refine Mix.wpMix_chg (by rfl) (fun K hK => ?_)
    go_wp2_with fail
    refine (l18Name_c 1 _).mono ?_
    rintro e w1 ⟨rfl, rfl⟩
    go_wp2_with fail
    refine hK _ _ ⟨⟨_, below_drew (below_size.alloc (Nat.le_refl _) _)⟩, rfl⟩ ?_
    clear hK K
    repeat (first | (refine Mix.wpMix_read (by rfl) ?_; go_big_quiet_step (fail); refine wpQuiet_nil ?_) | (refine Mix.wpMix_pure (by rfl) ?_; go_big_quiet_step (fail); refine wpQuiet_nil ?_))
    have b0 : (w.alloc (.cells #[.int .i64 4, .int .i64 1] 100)).drew.cell? ⟨w.heap.size, 0, none⟩ = some (.int .i64 4) := new_cell w _ _ 0
    have b1 : (w.alloc (.cells #[.int .i64 4, .int .i64 1] 100)).drew.cell? ⟨w.heap.size, 1, none⟩ = some (.int .i64 1) := new_cell w _ _ 1
    refine Mix.wpMix_chg (by rfl) (fun K hK => ?_)
    go_wp2_with fail
    refine hK _ _ ⟨⟨_, below_drew (below_size.alloc (Nat.le_refl _) _)⟩, rfl⟩ ?_
    clear hK K
    repeat (first | (refine Mix.wpMix_read (by rfl) ?_; go_big_quiet_step (fail); refine wpQuiet_nil ?_) | (refine Mix.wpMix_pure (by rfl) ?_; go_big_quiet_step (fail); refine wpQuiet_nil ?_))
    (refine Mix.wpMix_nil ?_; try simp only [Exit.then])
    go_wp2_with fail
    have BB := Lib.hid (show Below w.heap.size w (w.alloc (.cells #[.int .i64 4, .int .i64 1] 100)).drew from below_drew (below_size.alloc (Nat.le_refl _) _))
    clear hc0 hc1 z0 z1 b0 b1
    go_loopw [4] (fun iv wr => ∃ k : Nat, k ≤ n1 ∧ k % 2 = 0 ∧ iv = .int .i64 k ∧ Hid (cntR (c.drop k) = cntR c) ∧ Below w.heap.size w wr) (fun iv _ => n1 - (intOf iv).toNat)
    case atStart => exact ⟨0, by omega, by omega, rfl, rfl, BB.out⟩
    case round =>
      obtain ⟨k, hk, hk2, rfl, hr, hb⟩ := hrel
      have HB := Lib.hid hb
      by_cases hlt : k < n1
      · have RD := H.out.below hb
        obtain ⟨_, x, e, _, hx, hc0, _⟩ := RD.at_ (k := k) (by omega)
        injection e with e; subst e
        obtain ⟨_, y, e, _, hy, hy0, hy1⟩ := RD.at_ (k := k + 1) (by omega)
        injection e with e; subst e
        obtain ⟨p, v⟩ := x
        obtain ⟨a, b⟩ := y
        have HS := Lib.hid (show (decide (p = 0) && decide ((a, b) = ((4 : Int), (0 : Int))) && cntR (c.drop (k + 2))) = cntR c by
          rw [← hr.out, drop_at hx, drop_at hy]; rfl)
        simp only at hc0 hy0 hy1
        have z0 := Ext.cell hc0; have z1 := Ext.cell hy0; have z2 := Ext.cell hy1
        clear hx hy hr hb RD
        by_cases hp : p = 0
        · subst hp
          rcases pair_cases a b 4 0 with ⟨_, rfl, rfl⟩ | ⟨hne, hne2⟩
          · have HG := Lib.hid (show cntR (c.drop (k + 2)) = cntR c by rw [← HS.out]; simp)
            go_wp2_with fail
            refine Mix.wp_region_mix [0, 0, 0, 0, 3, 0, 0, 0, 0, 0, 0, 3, 1, 0, 1, 0, 0] (fun w' => ∃ x : Ext wr, w' = x.w) (by kernel_rfl) (by kernel_rfl) (InExt.drew _) ?_
            repeat (first | (refine Mix.wpMix_read (by rfl) ?_; go_big_quiet_step (fail); refine wpQuiet_nil ?_) | (refine Mix.wpMix_pure (by rfl) ?_; go_big_quiet_step (fail); refine wpQuiet_nil ?_))
            refine Mix.wpMix_chg (by rfl) (fun K hK => ?_)
            go_wp2_with fail
            refine (l18Name_c 0 _).mono ?_
            rintro e w1 ⟨rfl, rfl⟩
            go_wp2_with fail
            refine hK _ _ ⟨⟨_, below_drew (below_size.alloc (Nat.le_refl _) _)⟩, rfl⟩ ?_
            clear hK K
            repeat (first | (refine Mix.wpMix_read (by rfl) ?_; go_big_quiet_step (fail); refine wpQuiet_nil ?_) | (refine Mix.wpMix_pure (by rfl) ?_; go_big_quiet_step (fail); refine wpQuiet_nil ?_))
            have b0 : (wr.alloc (.cells #[.int .i64 4, .int .i64 0] 100)).drew.cell? ⟨wr.heap.size, 0, none⟩ = some (.int .i64 4) := new_cell wr _ _ 0
            have b1 : (wr.alloc (.cells #[.int .i64 4, .int .i64 0] 100)).drew.cell? ⟨wr.heap.size, 1, none⟩ = some (.int .i64 0) := new_cell wr _ _ 1
            refine Mix.wpMix_chg (by rfl) (fun K hK => ?_)
            go_wp2_with fail
            refine hK _ _ ⟨⟨_, below_drew (below_size.alloc (Nat.le_refl _) _)⟩, rfl⟩ ?_
            clear hK K
            repeat (first | (refine Mix.wpMix_read (by rfl) ?_; go_big_quiet_step (fail); refine wpQuiet_nil ?_) | (refine Mix.wpMix_pure (by rfl) ?_; go_big_quiet_step (fail); refine wpQuiet_nil ?_))
            (refine Mix.wpMix_nil ?_; try simp only [Exit.then])
            go_wp2_with fail
            go_roundw
            case rel => exact ⟨k + 2, by omega, by omega, by go_num, HG.out, below_drew (HB.out.alloc HB.out.size _)⟩
            case measure => simp [intOf]; omega
          · have HG := Lib.hid (show -1 = R by rw [← HR.out, cntI, ← HS.out, decide_eq_false hne]; simp)
            rcases hne2 with g1 | ⟨rfl, g1⟩
            · go_wp2_with fail
              refine Mix.wp_region_mix [0, 0, 0, 0, 3, 0, 0, 0, 0, 0, 0, 3, 1, 0, 1, 0, 0] (fun w' => ∃ x : Ext wr, w' = x.w) (by kernel_rfl) (by kernel_rfl) (InExt.drew _) ?_
              repeat (first | (refine Mix.wpMix_read (by rfl) ?_; go_big_quiet_step (fail); refine wpQuiet_nil ?_) | (refine Mix.wpMix_pure (by rfl) ?_; go_big_quiet_step (fail); refine wpQuiet_nil ?_))
              refine Mix.wpMix_chg (by rfl) (fun K hK => ?_)
              go_wp2_with fail
              refine (l18Name_c 0 _).mono ?_
              rintro e w1 ⟨rfl, rfl⟩
              go_wp2_with fail
              refine hK _ _ ⟨⟨_, below_drew (below_size.alloc (Nat.le_refl _) _)⟩, rfl⟩ ?_
              clear hK K
              repeat (first | (refine Mix.wpMix_read (by rfl) ?_; go_big_quiet_step (fail); refine wpQuiet_nil ?_) | (refine Mix.wpMix_pure (by rfl) ?_; go_big_quiet_step (fail); refine wpQuiet_nil ?_))
              have b0 : (wr.alloc (.cells #[.int .i64 4, .int .i64 0] 100)).drew.cell? ⟨wr.heap.size, 0, none⟩ = some (.int .i64 4) := new_cell wr _ _ 0
              have b1 : (wr.alloc (.cells #[.int .i64 4, .int .i64 0] 100)).drew.cell? ⟨wr.heap.size, 1, none⟩ = some (.int .i64 0) := new_cell wr _ _ 1
              refine Mix.wpMix_chg (by rfl) (fun K hK => ?_)
              go_wp2_with fail
              refine hK _ _ ⟨⟨_, below_drew (below_size.alloc (Nat.le_refl _) _)⟩, rfl⟩ ?_
              clear hK K
              repeat (first | (refine Mix.wpMix_read (by rfl) ?_; go_big_quiet_step (fail); refine wpQuiet_nil ?_) | (refine Mix.wpMix_pure (by rfl) ?_; go_big_quiet_step (fail); refine wpQuiet_nil ?_))
              (refine Mix.wpMix_nil ?_; try simp only [Exit.then])
              go_wp2_with fail
              go_ret
              exact ⟨by rw [← HG.out]; rfl, below_drew (HB.out.alloc HB.out.size _)⟩
            · go_wp2_with fail
              refine Mix.wp_region_mix [0, 0, 0, 0, 3, 0, 0, 0, 0, 0, 0, 3, 1, 0, 1, 0, 0] (fun w' => ∃ x : Ext wr, w' = x.w) (by kernel_rfl) (by kernel_rfl) (InExt.drew _) ?_
              repeat (first | (refine Mix.wpMix_read (by rfl) ?_; go_big_quiet_step (fail); refine wpQuiet_nil ?_) | (refine Mix.wpMix_pure (by rfl) ?_; go_big_quiet_step (fail); refine wpQuiet_nil ?_))
              refine Mix.wpMix_chg (by rfl) (fun K hK => ?_)
              go_wp2_with fail
              refine (l18Name_c 0 _).mono ?_
              rintro e w1 ⟨rfl, rfl⟩
              go_wp2_with fail
              refine hK _ _ ⟨⟨_, below_drew (below_size.alloc (Nat.le_refl _) _)⟩, rfl⟩ ?_
              clear hK K
              repeat (first | (refine Mix.wpMix_read (by rfl) ?_; go_big_quiet_step (fail); refine wpQuiet_nil ?_) | (refine Mix.wpMix_pure (by rfl) ?_; go_big_quiet_step (fail); refine wpQuiet_nil ?_))
              have b0 : (wr.alloc (.cells #[.int .i64 4, .int .i64 0] 100)).drew.cell? ⟨wr.heap.size, 0, none⟩ = some (.int .i64 4) := new_cell wr _ _ 0
              have b1 : (wr.alloc (.cells #[.int .i64 4, .int .i64 0] 100)).drew.cell? ⟨wr.heap.size, 1, none⟩ = some (.int .i64 0) := new_cell wr _ _ 1
              refine Mix.wpMix_chg (by rfl) (fun K hK => ?_)
              go_wp2_with fail
              refine hK _ _ ⟨⟨_, below_drew (below_size.alloc (Nat.le_refl _) _)⟩, rfl⟩ ?_
              clear hK K
              repeat (first | (refine Mix.wpMix_read (by rfl) ?_; go_big_quiet_step (fail); refine wpQuiet_nil ?_) | (refine Mix.wpMix_pure (by rfl) ?_; go_big_quiet_step (fail); refine wpQuiet_nil ?_))
              (refine Mix.wpMix_nil ?_; try simp only [Exit.then])
              go_wp2_with fail
              go_ret
              exact ⟨by rw [← HG.out]; rfl, below_drew (HB.out.alloc HB.out.size _)⟩
        · have gp : (p != 0) = true := by simpa using hp
          have HG := Lib.hid (show -1 = R by rw [← HR.out, cntI, ← HS.out, decide_eq_false hp]; simp)
          go_wp2_with fail
          refine Mix.wp_region_mix [0, 0, 0, 0, 3, 0, 0, 0, 0, 0, 0, 3, 1, 0, 1, 0, 0] (fun w' => ∃ x : Ext wr, w' = x.w) (by kernel_rfl) (by kernel_rfl) (InExt.drew _) ?_
          repeat (first | (refine Mix.wpMix_read (by rfl) ?_; go_big_quiet_step (fail); refine wpQuiet_nil ?_) | (refine Mix.wpMix_pure (by rfl) ?_; go_big_quiet_step (fail); refine wpQuiet_nil ?_))
          repeat (refine Mix.wpMix_skip (by rfl) ?_; simp only [Act.put, List.setIfInBounds_toArray, List.set_cons_succ, List.set_cons_zero])
          repeat (first | (refine Mix.wpMix_read (by rfl) ?_; go_big_quiet_step (fail); refine wpQuiet_nil ?_) | (refine Mix.wpMix_pure (by rfl) ?_; go_big_quiet_step (fail); refine wpQuiet_nil ?_))
          (refine Mix.wpMix_nil ?_; try simp only [Exit.then])
          go_wp2_with fail
          go_ret
          exact ⟨by rw [← HG.out]; rfl, below_drew HB.out⟩
      · obtain rfl : k = n1 := by omega
        have HG := Lib.hid (show ((k / 2 : Nat) : Int) = R by
          rw [← HR.out, cntI, ← hr.out, drop_at HX.out, List.drop_eq_nil_of_le (by rw [HL.out]; exact Nat.le_refl _), if_pos (by simp [cntR]), HL.out, Nat.add_sub_cancel])
        clear hr hb
        go_wp2_with fail
        go_ret
        refine ⟨?_, HB.out⟩
        rw [← HG.out]
        exact ret_eq (by show Value.int .i64 ((k : Int) / 2) = Value.int .i64 ((k / 2 : Nat) : Int); rw [Int.natCast_ediv]; rfl)
end Go.Proofs.YtebjpmmgdkepjaaGreatDoor
/-
  Contracts of chapter 18: the number of a combinator term, the reference's.
-/
namespace Go.Proofs.YtebjpmmgdkepjaaGreatDoor
open Go.RowKit

theorem three_blks (w : World) (a b c : Array Value) (ta tb tc : TypeId) : Blk (((w.alloc (.cells a ta)).alloc (.cells b tb)).alloc (.cells c tc)) w.heap.size ta a ∧ Blk (((w.alloc (.cells a ta)).alloc (.cells b tb)).alloc (.cells c tc)) (w.heap.size + 1) tb b ∧ Blk (((w.alloc (.cells a ta)).alloc (.cells b tb)).alloc (.cells c tc)) (w.heap.size + 1 + 1) tc c := by
  refine ⟨((Blk.new w _ _).alloc _).alloc _, ?_, ?_⟩
  · have := (Blk.new (w.alloc (.cells a ta)) tb b).alloc (.cells c tc)
    rw [World.size_alloc] at this; exact this
  · have := Blk.new ((w.alloc (.cells a ta)).alloc (.cells b tb)) tc c
    rw [World.size_alloc, World.size_alloc] at this; exact this
def itV1 (g : Nat) (v : Int) : ItV := itC (some ⟨g, 0, none⟩) 1 1 [(4, v)]
theorem itV1_ok {w : World} {g : Nat} {v : Int} {t : TypeId} (h : Blk w g t #[.int .i64 4, .int .i64 v]) : Rd w (itV1 g v).A ((itV1 g v).n * 2) (itV1 g v).vs ∧ ∀ u ∈ (itV1 g v).vs, u.oneCell' = true := itC_ok (h.rd rfl (by simp))
set_option maxHeartbeats 2000000 in
set_option maxRecDepth 100000 in
theorem l18Number_c (A : Option Addr) (n cp : Nat) (c : List (Int × Int)) (b : Nat) (R : Int × Int × Int) (w : World) (h : Rd2 w A n c) (hv : validC c = true) (hb : b ≤ 100000) (hR : nuN c b = R) :
    Calls Tryz.prog 52 #[.slice A n cp, .int .i64 b] w fun e w' => e = .returned (.tuple #[.int .i64 R.1, .int .i64 R.2.1, .int .i64 R.2.2]) ∧ Below w.heap.size w w' := by
  obtain ⟨hv1, hv2, hv3⟩ := validC_end hv
  have hl := h.len
  rw [hl] at hv2 hv3
  have H := Lib.hid h; have HR := Lib.hid hR; have HL := Lib.hid hl; have HV := Lib.hid hv
  clear h hR hl hv hv1
  have hTl : (appV c [0, 1]).length = n + 4 := by rw [appV_len, HL.out]; rfl
  go_enter Tryz.func52, Tryz.ntmps52
  obtain ⟨X, hX⟩ : ∃ X, runC b (appV c [0, 1]) 0 = X := ⟨_, rfl⟩
  have HX := Lib.hid hX
  clear hX
  go_wp2_with (go_at_call 91; refine (l18Name_c _ _).mono ?_; rintro e w1 ⟨rfl, rfl⟩)
  have BS := three_blks w #[.int .i64 4, .int .i64 0] #[.int .i64 4, .int .i64 1] #[.slice (some ⟨w.heap.size, 0, none⟩) 1 1, .slice (some ⟨w.heap.size + 1, 0, none⟩) 1 1] 100 100 37
  refine (l18Apply_c A n cp c _ 2 2 (n + 4) [itV1 w.heap.size 0, itV1 (w.heap.size + 1) 1] _ (((H.out.alloc _).alloc _).alloc _) (rdVC BS.2.2 (by simp [hdV, itV1, itC]) rfl (fun i hi => by
    simp only [List.mem_cons, List.not_mem_nil, or_false] at hi
    rcases hi with rfl | rfl
    · exact itV1_ok BS.1
    · exact itV1_ok BS.2.1)) (by omega) (by omega) (by simp [sumV, itV1, itC]) (by simp [sumV, itV1, itC]; omega)).mono ?_
  rintro e w1 ⟨A1, c1, rfl, hw1, hc1, hb1⟩
  have B1 := Lib.hid (up3 hb1)
  have W1 := Lib.hid (show Rd2 w1 A1 (n + 4) (appV c [0, 1]) by
    have := hw1.rd
    simpa [Rd2, appV, varT, itV1, itC, List.flatMap_append, List.append_assoc] using this)
  clear hw1 hb1 BS
  by_cases h4 : n + 4 ≤ 400
  case neg =>
    have HG := Lib.hid (show (0, 0, 5) = R by rw [← HR.out, nuN, if_neg (by rw [hTl]; exact h4)])
    have g1 : decide ((400 : Int) < ((n : Int) + 4)) = true := by rw [decide_eq_true_eq]; omega
    go_wp2_with fail
    go_ret3
    rw [← HG.out]
    exact ⟨rfl, B1.out⟩
  have HVT := Lib.hid (show validC (appV c [0, 1]) = true by rw [validC_appV HV.out [0, 1] (by decide), decide_eq_true_eq, hTl]; exact h4)
  have g1 : decide ((400 : Int) < ((n : Int) + 4)) = false := by rw [decide_eq_false_iff_not]; omega
  have HG := Lib.hid (show nuX X = R by rw [← HR.out, nuN, if_pos (by rw [hTl]; exact h4), HX.out])
  clear hTl
  go_wp2_with fail
  refine (l12CombRun_c _ _ c1 _ b X _ W1.out HVT.out hb HX.out).mono ?_
  intro e w2 h2
  have HH := Lib.hid h2
  clear h2
  cases X with
  | none =>
    obtain ⟨he, hb2⟩ := HH.out
    subst he
    have HG' := Lib.hid (show (0, 0, 5) = R from HG.out)
    have B2 := Lib.hid (below_chain B1.out B1.out.size hb2)
    clear hb2
    go_wp2_with fail
    go_ret3
    rw [← HG'.out]
    exact ⟨rfl, B2.out⟩
  | some x =>
    obtain ⟨o, s, q⟩ := x
    obtain ⟨A2, N2, c2, he, hw2, hl2, hc2, hb2⟩ := HH.out
    subst he
    have W2 := Lib.hid (show Rd2 w2 A2 N2 o from hw2.rd); have B2 := Lib.hid (below_chain B1.out B1.out.size hb2)
    have hv2' := validC_end (runC_valid HVT.out HX.out).1
    rw [hl2] at hv2'
    clear hw2 hb2 HH
    cases q
    · have HG' := Lib.hid (show (0, 0, 5) = R from HG.out)
      go_wp2_with fail
      go_ret3
      rw [← HG'.out]
      exact ⟨rfl, B2.out⟩
    · have HG' := Lib.hid (show (if cntR o = true then ((((o.length - 1) / 2 : Nat) : Int), (s : Int), (0 : Int)) else ((0 : Int), (0 : Int), (3 : Int))) = R from HG.out)
      obtain ⟨ad2, rfl, _, _⟩ := W2.out.2 (by omega)
      by_cases hq : cntR o = true
      · have HC := Lib.hid (show cntI o = (((o.length - 1) / 2 : Nat) : Int) by rw [cntI, if_pos hq])
        have HF := Lib.hid (show ((((o.length - 1) / 2 : Nat) : Int), (s : Int), (0 : Int)) = R by rw [← HG'.out, if_pos hq])
        obtain ⟨z, hz⟩ : ∃ z, (o.length - 1) / 2 = z := ⟨_, rfl⟩
        rw [hz] at HC HF
        have g2 : decide ((z : Int) < 0) = false := decide_eq_false (by omega)
        clear hz
        go_wp2_with (go_at_call 93; refine (l18Count_c _ _ _ o _ _ W2.out (by omega) HC.out).mono ?_; rintro e w3 ⟨rfl, hb3⟩)
        go_ret3
        rw [← HF.out]
        exact ⟨rfl, below_chain B2.out B2.out.size hb3⟩
      · have HC := Lib.hid (show cntI o = -1 by rw [cntI, if_neg hq])
        have HF := Lib.hid (show ((0 : Int), (0 : Int), (3 : Int)) = R by rw [← HG'.out, if_neg hq])
        go_wp2_with (go_at_call 93; refine (l18Count_c _ _ _ o _ _ W2.out (by omega) HC.out).mono ?_; rintro e w3 ⟨rfl, hb3⟩)
        go_ret3
        rw [← HF.out]
        exact ⟨rfl, below_chain B2.out B2.out.size hb3⟩
end Go.Proofs.YtebjpmmgdkepjaaGreatDoor
