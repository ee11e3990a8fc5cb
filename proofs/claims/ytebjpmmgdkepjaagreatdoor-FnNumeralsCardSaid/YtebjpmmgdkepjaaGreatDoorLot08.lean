/-
  Parts of the proof, one behind the other: contracts of the functions that the law reaches, and plain laws.
-/
import Derived.Test.YtebjpmmgdkepjaaGreatDoorLot02
import Derived.Test.YtebjpmmgdkepjaaGreatDoorLot06
import Derived.Test.YtebjpmmgdkepjaaGreatDoorLot07
/-
  Contracts of chapter 18: applications and numerals of the reference.
-/
namespace Go.Proofs.YtebjpmmgdkepjaaGreatDoor
open Go.RowKit

set_option maxHeartbeats 2000000 in
set_option maxRecDepth 100000 in
theorem l18Apply_c (A : Option Addr) (n c : Nat) (xs : List (Int × Int)) (G : Option Addr) (m mc N : Nat) (its : List ItV) (w : World) (h : Rd2 w A n xs) (hG : RdV w 2 G m its) (hm : m ≤ 1000) (hn : n ≤ 1000000) (hs : sumV its ≤ 1000000) (hN : m + n + sumV its = N) :
    Calls Tryz.prog 90 #[.slice A n c, .slice G m mc] w (CatOut 2 N ((List.replicate m ((0 : Int), (0 : Int))).flatMap enc2 ++ xs.flatMap enc2 ++ its.flatMap ItV.vs) w) := by
  have HL := Lib.hid hG.len
  have H := Lib.hid h; have HG := Lib.hid hG; have HN := Lib.hid hN
  have hNb : N ≤ 3000000 := by omega
  clear h hG hN
  have hmk : ∀ w, (Instr.makeSlice 37 (.int .i64 m) (.int .i64 m)).run Tryz.prog w = .ok (.slice (some ⟨w.heap.size, 0, none⟩) m m) (w.alloc (.cells (Array.replicate (m * 2) (.int .i64 0)) 100)) := fun w => run_mkK (P := Tryz.prog) 37 100 _ (.int .i64 0) 16 2 (by omega) Tryz.underlying37 info_pComb rfl .i64 .i64 m m (by omega) (by omega) (by omega) w
  have O0 := Lib.hid (show Own (w.alloc (.cells (Array.replicate (m * 2) (.int .i64 0)) 100)) w.heap.size 100 2 (some ⟨w.heap.size, 0, none⟩) m m ((List.replicate m ((0 : Int), (0 : Int))).flatMap enc2) from
    Own.fullK (Nat.le_refl _) (by rw [← repC2_full]; have := repC2_zero m (0, 0); rw [show repC2 m m (0, 0) = repC2 m 0 (0, 0) by simp [repC2], this]; simp) (by rw [flatX_len enc2 2 enc2_len]; simp) (by omega))
  have H0 := Lib.hid (show Rd2 (w.alloc (.cells (Array.replicate (m * 2) (.int .i64 0)) 100)) A n xs from H.out.alloc _)
  go_enter Tryz.func90, Tryz.ntmps90
  go_wp2_with (at_builtin; refine wp_appComb (by rfl) _ _ (by rfl) w.heap.size _ _ _ _ (by rfl) (by exact O0.out) A n c xs (by rfl) (by exact H0.out) (by omega) (by simp) ?_; intro A1 c1 w1 own1 hb1 hk1 hg1 hz1)
  have O1 := Lib.hid own1; have B1 := Lib.hid ((below_size.alloc (Nat.le_refl _) (.cells (Array.replicate (m * 2) (.int .i64 0)) 100)).trans hb1)
  clear own1 hb1 hk1 hg1 hz1 hmk O0 H0
  go_wp2_with fail
  go_loopw [5, 6] (fun ov iv wr => ∃ (j p oc : Nat) (O : Option Addr), j ≤ m ∧ iv = .int .i64 j ∧ ov = .slice O p oc ∧ p ≤ N ∧ Hid (p = m + n + sumV (its.take j)) ∧ Hid (Own wr w.heap.size 100 2 O p oc ((List.replicate m ((0 : Int), (0 : Int))).flatMap enc2 ++ xs.flatMap enc2 ++ (its.take j).flatMap ItV.vs)) ∧ Below w.heap.size w wr) (fun _ iv _ => m - (intOf iv).toNat)
  case atStart => exact ⟨0, m + n, c1, A1, by omega, rfl, rfl, by have := HN.out; omega, by simp [Hid, sumV], by unfold Hid; simpa using O1.out, B1.out⟩
  case round =>
    obtain ⟨j, p, oc, O, hj, rfl, rfl, hp, hr, hO, hb⟩ := hrel
    have HB := Lib.hid hb
    have hwz := hb.size
    by_cases hlt : j < m
    · obtain ⟨ad, t, rfl, ht, hc, hrd, hone⟩ := (HG.out.below hb).at_ hlt
      have HS := Lib.hid (sumV_take ht)
      have HT := Lib.hid (sumV_le (its := its) (k := j + 1))
      have hqt : p + t.n ≤ N := by have h1 := hr.out; have h2 := HS.out; have h3 := HT.out; have h4 := HN.out; omega
      have HR := Lib.hid (show p + t.n = m + n + sumV (its.take (j + 1)) by have h1 := hr.out; have h2 := HS.out; omega)
      have HF := Lib.hid (show (its.take (j + 1)).flatMap ItV.vs = (its.take j).flatMap ItV.vs ++ t.vs by rw [take_at ht]; simp)
      have ONE := Lib.hid hone; have RD := Lib.hid hrd
      have hcap := hO.out.cap
      clear ht hr hb hrd hone
      by_cases h0 : t.n = 0
      · have HV := Lib.hid (show t.vs = [] from List.length_eq_zero_iff.1 (by have := RD.out.1; rw [h0] at this; omega))
        obtain ⟨tA, tn, tc, tv⟩ := t
        simp only at h0 hc HS hqt HR HF HV
        subst h0
        go_wp2_with (at_builtin; refine wp_app0 (by rfl) _ _ 37 100 (.agg #[.int .i64 0, .int .i64 0]) 2 16 (by rfl) Tryz.underlying37 info_pComb O p oc (by rfl) hcap tA tc (by rfl) ?_)
        go_roundw
        case rel => exact ⟨j + 1, p, oc, O, by omega, by go_num, rfl, hp, HR.out, by unfold Hid; rw [HF.out, HV.out, List.append_nil]; exact hO.out, HB.out⟩
        case measure => simp [intOf]; omega
      · obtain ⟨ta, hta, htb, htc⟩ := RD.out.2 (by omega)
        have HTC := Lib.hid htc; have HTL := Lib.hid RD.out.1
        obtain ⟨tA, tn, tc, tv⟩ := t
        simp only at h0 hc HS hqt HR HF hta htb HTC HTL ONE
        subst hta
        clear htc RD
        go_wp2_with (at_builtin; refine wp_app (by rfl) _ _ 37 100 (.agg #[.int .i64 0, .int .i64 0]) 2 16 (by rfl) Tryz.underlying37 info_pComb rfl (by omega) w.heap.size O p oc _ (by rfl) (by exact hO.out) ta tn tc tv (by rfl) (by omega) HTL.out (by exact HTC.out) ONE.out (by omega) (by omega) hwz ?_; intro g' cap w3 own3 hb3 hk3 hg3 hz3)
        have O3 := Lib.hid own3
        have B3 := Lib.hid (HB.out.trans hb3)
        clear own3 hb3 hk3 hg3 hz3
        go_wp2_with fail
        go_roundw
        case rel => exact ⟨j + 1, p + tn, cap, some ⟨g', 0, none⟩, by omega, by go_num, rfl, hqt, HR.out, by unfold Hid; rw [HF.out, ← List.append_assoc]; exact O3.out, B3.out⟩
        case measure => simp [intOf]; omega
    · have e1 := Lib.hid (show its.take j = its from List.take_of_length_le (by rw [HL.out]; omega))
      have HP := Lib.hid (show p = N by rw [hr.out, e1.out, HN.out])
      clear hb hr
      go_wp2_with fail
      go_ret
      have h1 := hO.out
      rw [e1.out] at h1
      have hp2 := HP.out
      subst hp2
      exact ⟨O, oc, rfl, h1.wrK, h1.cap, HB.out⟩
/-- the number's value, or -1 -/
def cntI (o : List (Int × Int)) : Int := if cntR o = true then (((o.length - 1) / 2 : Nat) : Int) else -1
theorem pair_cases (a b x y : Int) : ((a, b) = (x, y) ∧ a = x ∧ b = y) ∨ ((a, b) ≠ (x, y) ∧ ((a == x) = false ∨ (a = x ∧ (b == y) = false))) := by
  by_cases ha : a = x
  · by_cases hb : b = y
    · subst ha; subst hb; exact .inl ⟨rfl, rfl, rfl⟩
    · exact .inr ⟨fun e => by injection e with _ e; exact hb e, .inr ⟨ha, by simpa using hb⟩⟩
  · exact .inr ⟨fun e => by injection e with e _; exact ha e, .inl (by simpa using ha)⟩
set_option maxHeartbeats 4000000 in
set_option maxRecDepth 100000 in
theorem l18Count_c (ad : Addr) (n cp : Nat) (c : List (Int × Int)) (R : Int) (w : World) (h : Rd2 w (some ad) n c) (hn : 1 ≤ n ∧ n ≤ 400) (hR : cntI c = R) :
    Calls Tryz.prog 93 #[.slice (some ad) n cp] w fun e w' => e = .returned (.int .i64 R) ∧ Below w.heap.size w w' := by
  have HL := Lib.hid h.len
  have H := Lib.hid h; have HR := Lib.hid hR; clear h hR
  by_cases hodd : n % 2 = 0
  · have HG := Lib.hid (show -1 = R by
      rw [← HR.out, cntI, if_neg]
      intro h; have := (cntR_odd h).1; rw [HL.out] at this; omega)
    have v1 : (n : Int).tmod 2 = 0 := by rw [Int.tmod_eq_emod_of_nonneg (by omega)]; omega
    go_enter Tryz.func93, Tryz.ntmps93
    go_wp2_with fail
    refine Mix.wp_region_mix [0, 0, 0, 0, 0, 0, 0, 0, 3, 1, 0, 1, 0, 0] (fun w' => ∃ x : Ext w, w' = x.w) (by kernel_rfl) (by kernel_rfl) (InExt.drew _) ?_
    repeat (first | (refine Mix.wpMix_read (by rfl) ?_; go_big_quiet_step (fail); refine wpQuiet_nil ?_) | (refine Mix.wpMix_pure (by rfl) ?_; go_big_quiet_step (fail); refine wpQuiet_nil ?_))
    repeat (refine Mix.wpMix_skip (by rfl) ?_; simp only [Act.put, List.setIfInBounds_toArray, List.set_cons_succ, List.set_cons_zero])
    repeat (first | (refine Mix.wpMix_read (by rfl) ?_; go_big_quiet_step (fail); refine wpQuiet_nil ?_) | (refine Mix.wpMix_pure (by rfl) ?_; go_big_quiet_step (fail); refine wpQuiet_nil ?_))
    (refine Mix.wpMix_nil ?_; try simp only [Exit.then])
    go_wp2_with fail
    go_ret
    exact ⟨by rw [← HG.out]; rfl, below_drew below_size⟩
  obtain ⟨n1, rfl⟩ : ∃ n1, n = n1 + 1 := ⟨n - 1, by omega⟩
  have v1 : (((n1 : Int) + 1) % 2 == 0) = false := by simp; omega
  have v2 : IntKind.i64.wrap ((n1 : Int) + 1 - 1) = (n1 : Int) := by rw [IntWalk.i64_in _ (by omega)]; omega
  obtain ⟨_, x, e, hab, hx, hc0, hc1⟩ := H.out.at_ (k := n1) (by omega)
  injection e with e; subst e
  obtain ⟨t, u⟩ := x
  simp only at hc0 hc1
  have HX := Lib.hid hx
  clear hx
  have z0 := Ext.cell hc0; have z1 := Ext.cell hc1
  rcases pair_cases t u 4 1 with ⟨_, rfl, rfl⟩ | ⟨hne, hne2⟩
  case inr =>
    have HG := Lib.hid (show -1 = R by
      rw [← HR.out, cntI, if_neg]
      intro h
      have h1 := (cntR_odd h).2
      rw [HL.out, Nat.add_sub_cancel, HX.out] at h1
      injection h1 with h1
      exact hne h1)
    rcases hne2 with g1 | ⟨rfl, g1⟩
    · go_enter Tryz.func93, Tryz.ntmps93
      go_wp2_with fail
      refine Mix.wp_region_mix [0, 0, 0, 0, 0, 0, 0, 0, 3, 1, 0, 1, 0, 0] (fun w' => ∃ x : Ext w, w' = x.w) (by kernel_rfl) (by kernel_rfl) (InExt.drew _) ?_
      repeat (first | (refine Mix.wpMix_read (by rfl) ?_; go_big_quiet_step (fail); refine wpQuiet_nil ?_) | (refine Mix.wpMix_pure (by rfl) ?_; go_big_quiet_step (fail); refine wpQuiet_nil ?_))
      refine Mix.wpMix_chg (by rfl) (fun K hK => ?_)
      go_wp2_with fail
      refine (l18Name_c 1 _).mono ?_
      rintro e w1 ⟨rfl, rfl⟩
      go_wp2_with fail
      refine hK _ _ ⟨⟨_, below_drew (below_size.alloc (Nat.le_refl _) _)⟩, rfl⟩ ?_
      clear hK K
      repeat (first | (refine Mix.wpMix_read (by rfl) ?_; go_big_quiet_step (fail); refine wpQuiet_nil ?_) | (refine Mix.wpMix_pure (by rfl) ?_; go_big_quiet_step (fail); refine wpQuiet_nil ?_))
      have b0 : (w.alloc (.cells #[.int .i64 4, .int .i64 1] 100)).drew.cell? ⟨w.heap.size, 0, none⟩ = some (.int .i64 4) := new_cell w _ _ 0
      have b1 : (w.alloc (.cells #[.int .i64 4, .int .i64 1] 100)).drew.cell? ⟨w.heap.size, 1, none⟩ = some (.int .i64 1) := new_cell w _ _ 1
      refine Mix.wpMix_chg (by rfl) (fun K hK => ?_)
      go_wp2_with fail
      refine hK _ _ ⟨⟨_, below_drew (below_size.alloc (Nat.le_refl _) _)⟩, rfl⟩ ?_
      clear hK K
      repeat (first | (refine Mix.wpMix_read (by rfl) ?_; go_big_quiet_step (fail); refine wpQuiet_nil ?_) | (refine Mix.wpMix_pure (by rfl) ?_; go_big_quiet_step (fail); refine wpQuiet_nil ?_))
      (refine Mix.wpMix_nil ?_; try simp only [Exit.then])
      go_wp2_with fail
      go_ret
      exact ⟨by rw [← HG.out]; rfl, below_drew (below_size.alloc (Nat.le_refl _) _)⟩
    · go_enter Tryz.func93, Tryz.ntmps93
      go_wp2_with fail
      refine Mix.wp_region_mix [0, 0, 0, 0, 0, 0, 0, 0, 3, 1, 0, 1, 0, 0] (fun w' => ∃ x : Ext w, w' = x.w) (by kernel_rfl) (by kernel_rfl) (InExt.drew _) ?_
      repeat (first | (refine Mix.wpMix_read (by rfl) ?_; go_big_quiet_step (fail); refine wpQuiet_nil ?_) | (refine Mix.wpMix_pure (by rfl) ?_; go_big_quiet_step (fail); refine wpQuiet_nil ?_))
      refine Mix.wpMix_chg (by rfl) (fun K hK => ?_)
      go_wp2_with fail
      refine (l18Name_c 1 _).mono ?_
      rintro e w1 ⟨rfl, rfl⟩
      go_wp2_with fail
      refine hK _ _ ⟨⟨_, below_drew (below_size.alloc (Nat.le_refl _) _)⟩, rfl⟩ ?_
      clear hK K
      repeat (first | (refine Mix.wpMix_read (by rfl) ?_; go_big_quiet_step (fail); refine wpQuiet_nil ?_) | (refine Mix.wpMix_pure (by rfl) ?_; go_big_quiet_step (fail); refine wpQuiet_nil ?_))
      have b0 : (w.alloc (.cells #[.int .i64 4, .int .i64 1] 100)).drew.cell? ⟨w.heap.size, 0, none⟩ = some (.int .i64 4) := new_cell w _ _ 0
      have b1 : (w.alloc (.cells #[.int .i64 4, .int .i64 1] 100)).drew.cell? ⟨w.heap.size, 1, none⟩ = some (.int .i64 1) := new_cell w _ _ 1
      refine Mix.wpMix_chg (by rfl) (fun K hK => ?_)
      go_wp2_with fail
      refine hK _ _ ⟨⟨_, below_drew (below_size.alloc (Nat.le_refl _) _)⟩, rfl⟩ ?_
      clear hK K
      repeat (first | (refine Mix.wpMix_read (by rfl) ?_; go_big_quiet_step (fail); refine wpQuiet_nil ?_) | (refine Mix.wpMix_pure (by rfl) ?_; go_big_quiet_step (fail); refine wpQuiet_nil ?_))
      (refine Mix.wpMix_nil ?_; try simp only [Exit.then])
      go_wp2_with fail
      go_ret
      exact ⟨by rw [← HG.out]; rfl, below_drew (below_size.alloc (Nat.le_refl _) _)⟩
  case inl =>
    go_enter Tryz.func93, Tryz.ntmps93
    go_wp2_with fail
    refine Mix.wp_region_mix [0, 0, 0, 0, 0, 0, 0, 0, 3, 1, 0, 1, 0, 0] (fun w' => ∃ x : Ext w, w' = x.w) (by kernel_rfl) (by kernel_rfl) (InExt.drew _) ?_
    repeat (first | (refine Mix.wpMix_read (by rfl) ?_; go_big_quiet_step (fail); refine wpQuiet_nil ?_) | (refine Mix.wpMix_pure (by rfl) ?_; go_big_quiet_step (fail); refine wpQuiet_nil ?_))
    refine Mix.wpMix_chg (by rfl) (fun K hK => ?_)
    go_wp2_with fail
    refine (l18Name_c 1 _).mono ?_
    rintro e w1 ⟨rfl, rfl⟩
    go_wp2_with fail
    refine hK _ _ ⟨⟨_, below_drew (below_size.alloc (Nat.le_refl _) _)⟩, rfl⟩ ?_
    clear hK K
    repeat (first | (refine Mix.wpMix_read (by rfl) ?_; go_big_quiet_step (fail); refine wpQuiet_nil ?_) | (refine Mix.wpMix_pure (by rfl) ?_; go_big_quiet_step (fail); refine wpQuiet_nil ?_))
    have b0 : (w.alloc (.cells #[.int .i64 4, .int .i64 1] 100)).drew.cell? ⟨w.heap.size, 0, none⟩ = some (.int .i64 4) := new_cell w _ _ 0
    have b1 : (w.alloc (.cells #[.int .i64 4, .int .i64 1] 100)).drew.cell? ⟨w.heap.size, 1, none⟩ = some (.int .i64 1) := new_cell w _ _ 1
    refine Mix.wpMix_chg (by rfl) (fun K hK => ?_)
    go_wp2_with fail
    refine hK _ _ ⟨⟨_, below_drew (below_size.alloc (Nat.le_refl _) _)⟩, rfl⟩ ?_
    clear hK K
    repeat (first | (refine Mix.wpMix_read (by rfl) ?_; go_big_quiet_step (fail); refine wpQuiet_nil ?_) | (refine Mix.wpMix_pure (by rfl) ?_; go_big_quiet_step (fail); refine wpQuiet_nil ?_))
    (refine Mix.wpMix_nil ?_; try simp only [Exit.then])
    go_wp2_with fail
    have BB := Lib.hid (show Below w.heap.size w (w.alloc (.cells #[.int .i64 4, .int .i64 1] 100)).drew from below_drew (below_size.alloc (Nat.le_refl _) _))
    clear hc0 hc1 z0 z1 b0 b1
    go_loopw [4] (fun iv wr => ∃ k : Nat, k ≤ n1 ∧ k % 2 = 0 ∧ iv = .int .i64 k ∧ Hid (cntR (c.drop k) = cntR c) ∧ Below w.heap.size w wr) (fun iv _ => n1 - (intOf iv).toNat)
    case atStart => exact ⟨0, by omega, by omega, rfl, rfl, BB.out⟩
    case round =>
      obtain ⟨k, hk, hk2, rfl, hr, hb⟩ := hrel
      have HB := Lib.hid hb
      by_cases hlt : k < n1
      · have RD := H.out.below hb
        obtain ⟨_, x, e, _, hx, hc0, _⟩ := RD.at_ (k := k) (by omega)
        injection e with e; subst e
        obtain ⟨_, y, e, _, hy, hy0, hy1⟩ := RD.at_ (k := k + 1) (by omega)
        injection e with e; subst e
        obtain ⟨p, v⟩ := x
        obtain ⟨a, b⟩ := y
        have HS := Lib.hid (show (decide (p = 0) && decide ((a, b) = ((4 : Int), (0 : Int))) && cntR (c.drop (k + 2))) = cntR c by
          rw [← hr.out, drop_at hx, drop_at hy]; rfl)
        simp only at hc0 hy0 hy1
        have z0 := Ext.cell hc0; have z1 := Ext.cell hy0; have z2 := Ext.cell hy1
        clear hx hy hr hb RD
        by_cases hp : p = 0
        · subst hp
          rcases pair_cases a b 4 0 with ⟨_, rfl, rfl⟩ | ⟨hne, hne2⟩
          · have HG := Lib.hid (show cntR (c.drop (k + 2)) = cntR c by rw [← HS.out]; simp)
            go_wp2_with fail
            refine Mix.wp_region_mix [0, 0, 0, 0, 3, 0, 0, 0, 0, 0, 0, 3, 1, 0, 1, 0, 0] (fun w' => ∃ x : Ext wr, w' = x.w) (by kernel_rfl) (by kernel_rfl) (InExt.drew _) ?_
            repeat (first | (refine Mix.wpMix_read (by rfl) ?_; go_big_quiet_step (fail); refine wpQuiet_nil ?_) | (refine Mix.wpMix_pure (by rfl) ?_; go_big_quiet_step (fail); refine wpQuiet_nil ?_))
            refine Mix.wpMix_chg (by rfl) (fun K hK => ?_)
            go_wp2_with fail
            refine (l18Name_c 0 _).mono ?_
            rintro e w1 ⟨rfl, rfl⟩
            go_wp2_with fail
            refine hK _ _ ⟨⟨_, below_drew (below_size.alloc (Nat.le_refl _) _)⟩, rfl⟩ ?_
            clear hK K
            repeat (first | (refine Mix.wpMix_read (by rfl) ?_; go_big_quiet_step (fail); refine wpQuiet_nil ?_) | (refine Mix.wpMix_pure (by rfl) ?_; go_big_quiet_step (fail); refine wpQuiet_nil ?_))
            have b0 : (wr.alloc (.cells #[.int .i64 4, .int .i64 0] 100)).drew.cell? ⟨wr.heap.size, 0, none⟩ = some (.int .i64 4) := new_cell wr _ _ 0
            have b1 : (wr.alloc (.cells #[.int .i64 4, .int .i64 0] 100)).drew.cell? ⟨wr.heap.size, 1, none⟩ = some (.int .i64 0) := new_cell wr _ _ 1
            refine Mix.wpMix_chg (by rfl) (fun K hK => ?_)
            go_wp2_with fail
            refine hK _ _ ⟨⟨_, below_drew (below_size.alloc (Nat.le_refl _) _)⟩, rfl⟩ ?_
            clear hK K
            repeat (first | (refine Mix.wpMix_read (by rfl) ?_; go_big_quiet_step (fail); refine wpQuiet_nil ?_) | (refine Mix.wpMix_pure (by rfl) ?_; go_big_quiet_step (fail); refine wpQuiet_nil ?_))
            (refine Mix.wpMix_nil ?_; try simp only [Exit.then])
            go_wp2_with fail
            go_roundw
            case rel => exact ⟨k + 2, by omega, by omega, by go_num, HG.out, below_drew (HB.out.alloc HB.out.size _)⟩
            case measure => simp [intOf]; omega
          · have HG := Lib.hid (show -1 = R by rw [← HR.out, cntI, ← HS.out, decide_eq_false hne]; simp)
            rcases hne2 with g1 | ⟨rfl, g1⟩
            · go_wp2_with fail
              refine Mix.wp_region_mix [0, 0, 0, 0, 3, 0, 0, 0, 0, 0, 0, 3, 1, 0, 1, 0, 0] (fun w' => ∃ x : Ext wr, w' = x.w) (by kernel_rfl) (by kernel_rfl) (InExt.drew _) ?_
              repeat (first | (refine Mix.wpMix_read (by rfl) ?_; go_big_quiet_step (fail); refine wpQuiet_nil ?_) | (refine Mix.wpMix_pure (by rfl) ?_; go_big_quiet_step (fail); refine wpQuiet_nil ?_))
              refine Mix.wpMix_chg (by rfl) (fun K hK => ?_)
              go_wp2_with fail
              refine (l18Name_c 0 _).mono ?_
              rintro e w1 ⟨rfl, rfl⟩
              go_wp2_with fail
              refine hK _ _ ⟨⟨_, below_drew (below_size.alloc (Nat.le_refl _) _)⟩, rfl⟩ ?_
              clear hK K
              repeat (first | (refine Mix.wpMix_read (by rfl) ?_; go_big_quiet_step (fail); refine wpQuiet_nil ?_) | (refine Mix.wpMix_pure (by rfl) ?_; go_big_quiet_step (fail); refine wpQuiet_nil ?_))
              have b0 : (wr.alloc (.cells #[.int .i64 4, .int .i64 0] 100)).drew.cell? ⟨wr.heap.size, 0, none⟩ = some (.int .i64 4) := new_cell wr _ _ 0
              have b1 : (wr.alloc (.cells #[.int .i64 4, .int .i64 0] 100)).drew.cell? ⟨wr.heap.size, 1, none⟩ = some (.int .i64 0) := new_cell wr _ _ 1
              refine Mix.wpMix_chg (by rfl) (fun K hK => ?_)
              go_wp2_with fail
              refine hK _ _ ⟨⟨_, below_drew (below_size.alloc (Nat.le_refl _) _)⟩, rfl⟩ ?_
              clear hK K
              repeat (first | (refine Mix.wpMix_read (by rfl) ?_; go_big_quiet_step (fail); refine wpQuiet_nil ?_) | (refine Mix.wpMix_pure (by rfl) ?_; go_big_quiet_step (fail); refine wpQuiet_nil ?_))
              (refine Mix.wpMix_nil ?_; try simp only [Exit.then])
              go_wp2_with fail
              go_ret
              exact ⟨by rw [← HG.out]; rfl, below_drew (HB.out.alloc HB.out.size _)⟩
            · go_wp2_with fail
              refine Mix.wp_region_mix [0, 0, 0, 0, 3, 0, 0, 0, 0, 0, 0, 3, 1, 0, 1, 0, 0] (fun w' => ∃ x : Ext wr, w' = x.w) (by kernel_rfl) (by kernel_rfl) (InExt.drew _) ?_
              repeat (first | (refine Mix.wpMix_read (by rfl) ?_; go_big_quiet_step (fail); refine wpQuiet_nil ?_) | (refine Mix.wpMix_pure (by rfl) ?_; go_big_quiet_step (fail); refine wpQuiet_nil ?_))
              refine Mix.wpMix_chg (by rfl) (fun K hK => ?_)
              go_wp2_with fail
              refine (l18Name_c 0 _).mono ?_
              rintro e w1 ⟨rfl, rfl⟩
              go_wp2_with fail
              refine hK _ _ ⟨⟨_, below_drew (below_size.alloc (Nat.le_refl _) _)⟩, rfl⟩ ?_
              clear hK K
              repeat (first | (refine Mix.wpMix_read (by rfl) ?_; go_big_quiet_step (fail); refine wpQuiet_nil ?_) | (refine Mix.wpMix_pure (by rfl) ?_; go_big_quiet_step (fail); refine wpQuiet_nil ?_))
              have b0 : (wr.alloc (.cells #[.int .i64 4, .int .i64 0] 100)).drew.cell? ⟨wr.heap.size, 0, none⟩ = some (.int .i64 4) := new_cell wr _ _ 0
              have b1 : (wr.alloc (.cells #[.int .i64 4, .int .i64 0] 100)).drew.cell? ⟨wr.heap.size, 1, none⟩ = some (.int .i64 0) := new_cell wr _ _ 1
              refine Mix.wpMix_chg (by rfl) (fun K hK => ?_)
              go_wp2_with fail
              refine hK _ _ ⟨⟨_, below_drew (below_size.alloc (Nat.le_refl _) _)⟩, rfl⟩ ?_
              clear hK K
              repeat (first | (refine Mix.wpMix_read (by rfl) ?_; go_big_quiet_step (fail); refine wpQuiet_nil ?_) | (refine Mix.wpMix_pure (by rfl) ?_; go_big_quiet_step (fail); refine wpQuiet_nil ?_))
              (refine Mix.wpMix_nil ?_; try simp only [Exit.then])
              go_wp2_with fail
              go_ret
              exact ⟨by rw [← HG.out]; rfl, below_drew (HB.out.alloc HB.out.size _)⟩
        · have gp : (p != 0) = true := by simpa using hp
          have HG := Lib.hid (show -1 = R by rw [← HR.out, cntI, ← HS.out, decide_eq_false hp]; simp)
          go_wp2_with fail
          refine Mix.wp_region_mix [0, 0, 0, 0, 3, 0, 0, 0, 0, 0, 0, 3, 1, 0, 1, 0, 0] (fun w' => ∃ x : Ext wr, w' = x.w) (by kernel_rfl) (by kernel_rfl) (InExt.drew _) ?_
          repeat (first | (refine Mix.wpMix_read (by rfl) ?_; go_big_quiet_step (fail); refine wpQuiet_nil ?_) | (refine Mix.wpMix_pure (by rfl) ?_; go_big_quiet_step (fail); refine wpQuiet_nil ?_))
          repeat (refine Mix.wpMix_skip (by rfl) ?_; simp only [Act.put, List.setIfInBounds_toArray, List.set_cons_succ, List.set_cons_zero])
          repeat (first | (refine Mix.wpMix_read (by rfl) ?_; go_big_quiet_step (fail); refine wpQuiet_nil ?_) | (refine Mix.wpMix_pure (by rfl) ?_; go_big_quiet_step (fail); refine wpQuiet_nil ?_))
          (refine Mix.wpMix_nil ?_; try simp only [Exit.then])
          go_wp2_with fail
          go_ret
          exact ⟨by rw [← HG.out]; rfl, below_drew HB.out⟩
      · obtain rfl : k = n1 := by omega
        have HG := Lib.hid (show ((k / 2 : Nat) : Int) = R by
          rw [← HR.out, cntI, ← hr.out, drop_at HX.out, List.drop_eq_nil_of_le (by rw [HL.out]; exact Nat.le_refl _), if_pos (by simp [cntR]), HL.out, Nat.add_sub_cancel])
        clear hr hb
        go_wp2_with fail
        go_ret
        refine ⟨?_, HB.out⟩
        rw [← HG.out]
        exact ret_eq (by show Value.int .i64 ((k : Int) / 2) = Value.int .i64 ((k / 2 : Nat) : Int); rw [Int.natCast_ediv]; rfl)
end Go.Proofs.YtebjpmmgdkepjaaGreatDoor
/-
  Contracts of chapter 18: the number of a combinator term, the reference's.
-/
namespace Go.Proofs.YtebjpmmgdkepjaaGreatDoor
open Go.RowKit

theorem three_blks (w : World) (a b c : Array Value) (ta tb tc : TypeId) : Blk (((w.alloc (.cells a ta)).alloc (.cells b tb)).alloc (.cells c tc)) w.heap.size ta a ∧ Blk (((w.alloc (.cells a ta)).alloc (.cells b tb)).alloc (.cells c tc)) (w.heap.size + 1) tb b ∧ Blk (((w.alloc (.cells a ta)).alloc (.cells b tb)).alloc (.cells c tc)) (w.heap.size + 1 + 1) tc c := by
  refine ⟨((Blk.new w _ _).alloc _).alloc _, ?_, ?_⟩
  · have := (Blk.new (w.alloc (.cells a ta)) tb b).alloc (.cells c tc)
    rw [World.size_alloc] at this; exact this
  · have := Blk.new ((w.alloc (.cells a ta)).alloc (.cells b tb)) tc c
    rw [World.size_alloc, World.size_alloc] at this; exact this
def itV1 (g : Nat) (v : Int) : ItV := itC (some ⟨g, 0, none⟩) 1 1 [(4, v)]
theorem itV1_ok {w : World} {g : Nat} {v : Int} {t : TypeId} (h : Blk w g t #[.int .i64 4, .int .i64 v]) : Rd w (itV1 g v).A ((itV1 g v).n * 2) (itV1 g v).vs ∧ ∀ u ∈ (itV1 g v).vs, u.oneCell' = true := itC_ok (h.rd rfl (by simp))
set_option maxHeartbeats 2000000 in
set_option maxRecDepth 100000 in
theorem l18Number_c (A : Option Addr) (n cp : Nat) (c : List (Int × Int)) (b : Nat) (R : Int × Int × Int) (w : World) (h : Rd2 w A n c) (hv : validC c = true) (hb : b ≤ 100000) (hR : nuN c b = R) :
    Calls Tryz.prog 52 #[.slice A n cp, .int .i64 b] w fun e w' => e = .returned (.tuple #[.int .i64 R.1, .int .i64 R.2.1, .int .i64 R.2.2]) ∧ Below w.heap.size w w' := by
  obtain ⟨hv1, hv2, hv3⟩ := validC_end hv
  have hl := h.len
  rw [hl] at hv2 hv3
  have H := Lib.hid h; have HR := Lib.hid hR; have HL := Lib.hid hl; have HV := Lib.hid hv
  clear h hR hl hv hv1
  have hTl : (appV c [0, 1]).length = n + 4 := by rw [appV_len, HL.out]; rfl
  go_enter Tryz.func52, Tryz.ntmps52
  obtain ⟨X, hX⟩ : ∃ X, runC b (appV c [0, 1]) 0 = X := ⟨_, rfl⟩
  have HX := Lib.hid hX
  clear hX
  go_wp2_with (go_at_call 91; refine (l18Name_c _ _).mono ?_; rintro e w1 ⟨rfl, rfl⟩)
  have BS := three_blks w #[.int .i64 4, .int .i64 0] #[.int .i64 4, .int .i64 1] #[.slice (some ⟨w.heap.size, 0, none⟩) 1 1, .slice (some ⟨w.heap.size + 1, 0, none⟩) 1 1] 100 100 37
  refine (l18Apply_c A n cp c _ 2 2 (n + 4) [itV1 w.heap.size 0, itV1 (w.heap.size + 1) 1] _ (((H.out.alloc _).alloc _).alloc _) (rdVC BS.2.2 (by simp [hdV, itV1, itC]) rfl (fun i hi => by
    simp only [List.mem_cons, List.not_mem_nil, or_false] at hi
    rcases hi with rfl | rfl
    · exact itV1_ok BS.1
    · exact itV1_ok BS.2.1)) (by omega) (by omega) (by simp [sumV, itV1, itC]) (by simp [sumV, itV1, itC]; omega)).mono ?_
  rintro e w1 ⟨A1, c1, rfl, hw1, hc1, hb1⟩
  have B1 := Lib.hid (up3 hb1)
  have W1 := Lib.hid (show Rd2 w1 A1 (n + 4) (appV c [0, 1]) by
    have := hw1.rd
    simpa [Rd2, appV, varT, itV1, itC, List.flatMap_append, List.append_assoc] using this)
  clear hw1 hb1 BS
  by_cases h4 : n + 4 ≤ 400
  case neg =>
    have HG := Lib.hid (show (0, 0, 5) = R by rw [← HR.out, nuN, if_neg (by rw [hTl]; exact h4)])
    have g1 : decide ((400 : Int) < ((n : Int) + 4)) = true := by rw [decide_eq_true_eq]; omega
    go_wp2_with fail
    go_ret3
    rw [← HG.out]
    exact ⟨rfl, B1.out⟩
  have HVT := Lib.hid (show validC (appV c [0, 1]) = true by rw [validC_appV HV.out [0, 1] (by decide), decide_eq_true_eq, hTl]; exact h4)
  have g1 : decide ((400 : Int) < ((n : Int) + 4)) = false := by rw [decide_eq_false_iff_not]; omega
  have HG := Lib.hid (show nuX X = R by rw [← HR.out, nuN, if_pos (by rw [hTl]; exact h4), HX.out])
  clear hTl
  go_wp2_with fail
  refine (l12CombRun_c _ _ c1 _ b X _ W1.out HVT.out hb HX.out).mono ?_
  intro e w2 h2
  have HH := Lib.hid h2
  clear h2
  cases X with
  | none =>
    obtain ⟨he, hb2⟩ := HH.out
    subst he
    have HG' := Lib.hid (show (0, 0, 5) = R from HG.out)
    have B2 := Lib.hid (below_chain B1.out B1.out.size hb2)
    clear hb2
    go_wp2_with fail
    go_ret3
    rw [← HG'.out]
    exact ⟨rfl, B2.out⟩
  | some x =>
    obtain ⟨o, s, q⟩ := x
    obtain ⟨A2, N2, c2, he, hw2, hl2, hc2, hb2⟩ := HH.out
    subst he
    have W2 := Lib.hid (show Rd2 w2 A2 N2 o from hw2.rd); have B2 := Lib.hid (below_chain B1.out B1.out.size hb2)
    have hv2' := validC_end (runC_valid HVT.out HX.out).1
    rw [hl2] at hv2'
    clear hw2 hb2 HH
    cases q
    · have HG' := Lib.hid (show (0, 0, 5) = R from HG.out)
      go_wp2_with fail
      go_ret3
      rw [← HG'.out]
      exact ⟨rfl, B2.out⟩
    · have HG' := Lib.hid (show (if cntR o = true then ((((o.length - 1) / 2 : Nat) : Int), (s : Int), (0 : Int)) else ((0 : Int), (0 : Int), (3 : Int))) = R from HG.out)
      obtain ⟨ad2, rfl, _, _⟩ := W2.out.2 (by omega)
      by_cases hq : cntR o = true
      · have HC := Lib.hid (show cntI o = (((o.length - 1) / 2 : Nat) : Int) by rw [cntI, if_pos hq])
        have HF := Lib.hid (show ((((o.length - 1) / 2 : Nat) : Int), (s : Int), (0 : Int)) = R by rw [← HG'.out, if_pos hq])
        obtain ⟨z, hz⟩ : ∃ z, (o.length - 1) / 2 = z := ⟨_, rfl⟩
        rw [hz] at HC HF
        have g2 : decide ((z : Int) < 0) = false := decide_eq_false (by omega)
        clear hz
        go_wp2_with (go_at_call 93; refine (l18Count_c _ _ _ o _ _ W2.out (by omega) HC.out).mono ?_; rintro e w3 ⟨rfl, hb3⟩)
        go_ret3
        rw [← HF.out]
        exact ⟨rfl, below_chain B2.out B2.out.size hb3⟩
      · have HC := Lib.hid (show cntI o = -1 by rw [cntI, if_neg hq])
        have HF := Lib.hid (show ((0 : Int), (0 : Int), (3 : Int)) = R by rw [← HG'.out, if_neg hq])
        go_wp2_with (go_at_call 93; refine (l18Count_c _ _ _ o _ _ W2.out (by omega) HC.out).mono ?_; rintro e w3 ⟨rfl, hb3⟩)
        go_ret3
        rw [← HF.out]
        exact ⟨rfl, below_chain B2.out B2.out.size hb3⟩
end Go.Proofs.YtebjpmmgdkepjaaGreatDoor
/-
  A region that draws its order, walked in ANY order by facts: each operation's value and memory, shown once from the facts of the operations that it needs.
-/
namespace Go.Proofs.YtebjpmmgdkepjaaGreatDoor
namespace MixA
open Go.RowKit Mix
section
variable {P : Program} {ops : Array Oper} {md : Region.Mode}

def reach (md : Region.Mode) (ops : Array Oper) : Nat → Nat → Nat → Bool
  | 0, _, _ => false
  | f + 1, i, j => match ops[i]? with
    | none => false
    | some o => o.after.toList.any fun e => Region.binds md e && (decide (e.on = j) || reach md ops f e.on j)
theorem reach_needs : ∀ {f i j : Nat}, reach md ops f i j = true → Needs md ops i j
  | 0, _, _, h => by simp [reach] at h
  | f + 1, i, j, h => by
    intro listed hcl hl
    unfold reach at h
    cases ho : ops[i]? with
    | none => rw [ho] at h; simp at h
    | some o =>
      rw [ho] at h
      simp only [List.any_eq_true, Bool.and_eq_true, Bool.or_eq_true, decide_eq_true_eq] at h
      obtain ⟨e, he, hb, hj⟩ := h
      have hon := hl o ho e (by simpa using he) hb
      rcases hj with hj | hj
      · rw [← hj]; exact hon
      · exact reach_needs hj listed hcl fun o' ho' e' he' hb' => hcl e.on o' ho' hon e' he' hb'

/-- facts: of each front operation i, from the values of the operations D i, its own value, its blocks, the world -/
abbrev Facts := Nat → List Value → Value → Nat → Nat → World → Prop
def val (a : Act) (t : Tmp) : Value := a.tmps.getD t undef
structure St (md : Region.Mode) (ops : Array Oper) (F : Nat) (dst : Nat → Tmp) (D : Nat → List Nat) (V : Facts) (a0 : Act) (w0 : World) (listed : Array Bool) (a : Act) (w : World) : Prop where
  size : listed.size = ops.size
  closed : Closed md ops listed
  ext : Below w0.heap.size w0 w
  tm : a.tmps.size = a0.tmps.size
  df : a.defers = a0.defers
  agree : ∀ t, (∀ j, j < F → dst j ≠ t) → a.tmps[t]? = a0.tmps[t]?
  noTail : ∀ i, F ≤ i → listed.getD i false = false
  facts : ∃ R : Nat → Nat × Nat, (∀ j, j < F → listed.getD j false = true → V j ((D j).map fun k => val a (dst k)) (val a (dst j)) (R j).1 (R j).2 w ∧ w0.heap.size ≤ (R j).1 ∧ (R j).1 ≤ (R j).2 ∧ (R j).2 ≤ w.heap.size) ∧
    ∀ j k, j < F → k < F → j ≠ k → listed.getD j false = true → listed.getD k false = true → (R j).2 ≤ (R k).1 ∨ (R k).2 ≤ (R j).1
theorem val_put_ne {a : Act} {d t : Tmp} {v : Value} (h : d ≠ t) : val (a.put (some d) v) t = val a t := by
  simp [val, Act.put, Array.getD_eq_getD_getElem?, Array.getElem?_setIfInBounds_ne h]
theorem val_put {a : Act} {d : Tmp} {v : Value} (h : d < a.tmps.size) : val (a.put (some d) v) d = v := by
  simp [val, Act.put, h]
variable {F : Nat} {dst : Nat → Tmp} {D : Nat → List Nat} {V : Facts} {a0 : Act} {w0 : World} {Q' : Exit → Act → World → Prop}
theorem St.step {listed : Array Bool} {a : Act} {w w' : World} {i : Nat} {v : Value} (h : St md ops F dst D V a0 w0 listed a w) (hi : i < F) (hr : i ∈ Region.ready md ops listed)
    (hinj : ∀ j k, j < F → k < F → dst j = dst k → j = k) (hdst : dst i < a0.tmps.size) (hD : ∀ j, j < F → ∀ k ∈ D j, k < F ∧ Needs md ops j k)
    (hst : ∀ j l v lo hi w w', Below w.heap.size w w' → V j l v lo hi w → V j l v lo hi w')
    (hb : Below w.heap.size w w') (hv : V i ((D i).map fun k => val a (dst k)) v w.heap.size w'.heap.size w') :
    St md ops F dst D V a0 w0 (listed.setIfInBounds i true) (a.put (some (dst i)) v) w' := by
  obtain ⟨hun, oi, hoi, hall⟩ := mem_ready.1 hr
  have hilt : i < ops.size := (Array.getElem?_eq_some_iff.1 hoi).1
  have hz := h.ext.size
  have hzw := hb.size
  have hni : listed.getD i false ≠ true := fun he => by
    have := getD_tf (by rw [h.size]; exact hilt) he
    exact this hun
  have hother : ∀ j, j ≠ i → (listed.setIfInBounds i true).getD j false = listed.getD j false := fun j hj => getD_set_ne false (Ne.symm hj)
  have hself : (listed.setIfInBounds i true).getD i false = true := by simp [h.size, hilt]
  have hdep : ∀ j, j < F → (listed.getD j false = true ∨ j = i) → ∀ k ∈ D j, k ≠ i := by
    intro j hj hl k hk e
    subst e
    have hN := (hD j hj k hk).2
    rcases hl with hl | rfl
    · refine hni ?_
      exact hN listed h.closed fun o ho e he hbd => h.closed j o ho hl e he hbd
    · exact hni (hN.ready h.closed hr)
  have hmap : ∀ j, j < F → (listed.getD j false = true ∨ j = i) → ((D j).map fun k => val (a.put (some (dst i)) v) (dst k)) = (D j).map fun k => val a (dst k) := by
    intro j hj hl
    refine List.map_congr_left fun k hk => val_put_ne fun e => hdep j hj hl k hk (hinj _ _ (hD j hj k hk).1 hi e.symm)
  obtain ⟨R, hR, hRd⟩ := h.facts
  refine ⟨by simp [h.size], ?_, (h.ext.trans (hb.mono hz)), by simp [Act.put, h.tm], h.df, fun t ht => ?_, fun k hk => ?_, fun j => if j = i then (w.heap.size, w'.heap.size) else R j, fun j hj hl => ?_, fun j k hj hk hjk hl hlk => ?_⟩
  · intro k ok hk hlk e he hbd
    by_cases hki : k = i
    · subst hki
      have : ok = oi := Option.some.inj (hk.symm.trans hoi)
      subst this
      exact getD_set_true (hall e he hbd)
    · rw [hother k hki] at hlk
      exact getD_set_true (h.closed k ok hk hlk e he hbd)
  · rw [← h.agree t ht]
    simp [Act.put, Array.getElem?_setIfInBounds_ne (ht i hi)]
  · rw [hother k (by omega)]; exact h.noTail k hk
  · show V j ((D j).map fun k => val (a.put (some (dst i)) v) (dst k)) (val (a.put (some (dst i)) v) (dst j)) (if j = i then (w.heap.size, w'.heap.size) else R j).1 (if j = i then (w.heap.size, w'.heap.size) else R j).2 w' ∧ w0.heap.size ≤ (if j = i then (w.heap.size, w'.heap.size) else R j).1 ∧ (if j = i then (w.heap.size, w'.heap.size) else R j).1 ≤ (if j = i then (w.heap.size, w'.heap.size) else R j).2 ∧ (if j = i then (w.heap.size, w'.heap.size) else R j).2 ≤ w'.heap.size
    by_cases hji : j = i
    · subst hji
      rw [if_pos rfl, hmap j hj (.inr rfl), val_put (by rw [h.tm]; exact hdst)]
      exact ⟨hv, hz, hzw, Nat.le_refl _⟩
    · rw [hother j hji] at hl
      rw [if_neg hji, hmap j hj (.inl hl), val_put_ne (fun e => hji (hinj _ _ hj hi e.symm))]
      obtain ⟨h1, h2, h3, h4⟩ := hR j hj hl
      exact ⟨hst _ _ _ _ _ _ _ hb h1, h2, h3, by omega⟩
  · show (if j = i then (w.heap.size, w'.heap.size) else R j).2 ≤ (if k = i then (w.heap.size, w'.heap.size) else R k).1 ∨ (if k = i then (w.heap.size, w'.heap.size) else R k).2 ≤ (if j = i then (w.heap.size, w'.heap.size) else R j).1
    by_cases hji : j = i
    · subst hji
      rw [hother k (Ne.symm hjk)] at hlk
      rw [if_pos rfl, if_neg (Ne.symm hjk)]
      exact .inr (hR k hk hlk).2.2.2
    · rw [hother j hji] at hl
      rw [if_neg hji]
      by_cases hki : k = i
      · subst hki
        rw [if_pos rfl]
        exact .inl (hR j hj hl).2.2.2
      · rw [hother k hki] at hlk
        rw [if_neg hki]
        exact hRd j k hj hk hjk hl hlk
/-- what an operation may lean on -/
def Leans (F : Nat) (dst : Nat → Tmp) (D : Nat → List Nat) (V : Facts) (a0 : Act) (w0 : World) (i : Nat) (a : Act) (w : World) : Prop :=
  Below w0.heap.size w0 w ∧ a.tmps.size = a0.tmps.size ∧ a.defers = a0.defers ∧ (∀ t, (∀ j, j < F → dst j ≠ t) → a.tmps[t]? = a0.tmps[t]?) ∧
    ∃ R : Nat → Nat × Nat, (∀ j ∈ D i, V j ((D j).map fun k => val a (dst k)) (val a (dst j)) (R j).1 (R j).2 w ∧ w0.heap.size ≤ (R j).1 ∧ (R j).1 ≤ (R j).2 ∧ (R j).2 ≤ w.heap.size) ∧ ∀ j ∈ D i, ∀ k ∈ D i, j ≠ k → (R j).2 ≤ (R k).1 ∨ (R k).2 ≤ (R j).1
theorem facts_any (hinj : ∀ j k, j < F → k < F → dst j = dst k → j = k) (hdst : ∀ j, j < F → dst j < a0.tmps.size) (hD : ∀ j, j < F → ∀ k ∈ D j, k < F ∧ Needs md ops j k)
    (hst : ∀ j l v lo hi w w', Below w.heap.size w w' → V j l v lo hi w → V j l v lo hi w')
    (hat : ∀ i, i < F → ∃ o, ops[i]? = some o ∧ o.guard = none ∧ o.dst = some (dst i))
    (hlow : ∀ i o, i < F → ops[i]? = some o → ∀ e ∈ o.after, Region.binds md e = true → e.on < i)
    (htail : ∀ t, F ≤ t → t < ops.size → ∀ i, i < F → Needs md ops t i)
    (hop : ∀ i o, i < F → ops[i]? = some o → ∀ a w, Leans F dst D V a0 w0 i a w → o.wp P a w (fun a' w' => ∃ v, a' = a.put (some (dst i)) v ∧ Below w.heap.size w w' ∧ V i ((D i).map fun k => val a (dst k)) v w.heap.size w'.heap.size w') (fun _ _ _ => False))
    (hend : ∀ listed a w, St md ops F dst D V a0 w0 listed a w → (∀ j, j < F → listed.getD j false = true) → wpAny P md ops Q' (ops.size - F) listed a w) :
    ∀ (m : Nat) (L : List Nat) (listed : Array Bool) (a : Act) (w : World), L.length = m → L.Nodup → (∀ j, j ∈ L ↔ j < F ∧ listed.getD j false = false) → St md ops F dst D V a0 w0 listed a w → wpAny P md ops Q' (ops.size - F + m) listed a w := by
  intro m
  induction m with
  | zero =>
    intro L listed a w hL _ hm h
    obtain rfl := List.eq_nil_of_length_eq_zero hL
    refine hend listed a w h fun j hj => ?_
    cases hl : listed.getD j false
    · exact absurd ((hm j).2 ⟨hj, hl⟩) (by simp)
    · rfl
  | succ m ih =>
    intro L listed a w hL hnd hm h
    have hsz := h.size
    refine ⟨fun hr => ?_, fun i hi => ?_⟩
    · exfalso
      -- the least one that isn't listed is ready
      have key : ∀ n, ∀ i, i ≤ n → i < F → listed.getD i false = true := by
        intro n
        induction n with
        | zero =>
          intro i hin hiF
          obtain rfl : i = 0 := by omega
          cases hl : listed.getD 0 false
          · exfalso
            obtain ⟨o, ho, _⟩ := hat 0 hiF
            have h0 : 0 < ops.size := (Array.getElem?_eq_some_iff.1 ho).1
            have : 0 ∈ Region.ready md ops listed := mem_ready.2 ⟨by simp [hsz, h0] at hl ⊢; exact hl, o, ho, fun e he hb => absurd (hlow 0 o hiF ho e he hb) (by omega)⟩
            rw [hr] at this; cases this
          · rfl
        | succ n ihn =>
          intro i hin hiF
          by_cases h1 : i ≤ n
          · exact ihn i h1 hiF
          · cases hl : listed.getD i false
            · exfalso
              obtain ⟨o, ho, _⟩ := hat i hiF
              have h0 : i < ops.size := (Array.getElem?_eq_some_iff.1 ho).1
              have : i ∈ Region.ready md ops listed := mem_ready.2 ⟨by simp [hsz, h0] at hl ⊢; exact hl, o, ho, fun e he hb => ihn e.on (by have := hlow i o hiF ho e he hb; omega) (by have := hlow i o hiF ho e he hb; omega)⟩
              rw [hr] at this; cases this
            · rfl
      cases L with
      | nil => simp at hL
      | cons x L =>
        obtain ⟨hx, hxl⟩ := (hm x).1 (by simp)
        rw [key x x (Nat.le_refl _) hx] at hxl; cases hxl
    · obtain ⟨hun, oi, hoi, hall⟩ := mem_ready.1 hi
      have hilt : i < ops.size := (Array.getElem?_eq_some_iff.1 hoi).1
      by_cases hiF : i < F
      · obtain ⟨o, ho, hg, hd⟩ := hat i hiF
        obtain rfl : oi = o := Option.some.inj (hoi.symm.trans ho)
        unfold wpOp
        simp only [hoi]
        rw [if_pos (by simp [Region.wanted, hg])]
        refine .inl (wp_noexit ?_)
        obtain ⟨R, hR, hRd⟩ := h.facts
        have hl : ∀ j ∈ D i, j < F ∧ listed.getD j false = true := fun j hj => ⟨(hD i hiF j hj).1, (hD i hiF j hj).2.ready h.closed hi⟩
        refine Oper.wp_mono (fun a' w' hk => ?_) (hop i oi hiF hoi a w ⟨h.ext, h.tm, h.df, h.agree, R, fun j hj => hR j (hl j hj).1 (hl j hj).2, fun j hj k hk hjk => hRd j k (hl j hj).1 (hl k hk).1 hjk (hl j hj).2 (hl k hk).2⟩)
        obtain ⟨v, rfl, hb, hv⟩ := hk
        have hmi : i ∈ L := (hm i).2 ⟨hiF, by cases hq : listed.getD i false with | false => rfl | true => exact absurd hun (getD_tf (by rw [hsz]; exact hilt) hq)⟩
        refine ih (L.erase i) _ _ _ (by rw [List.length_erase_of_mem hmi, hL]; rfl) (hnd.erase i) (fun j => ?_) (h.step hiF hi hinj (hdst i hiF) hD hst hb hv)
        rw [hnd.mem_erase_iff]
        by_cases hji : j = i
        · subst hji
          constructor
          · exact fun hx => absurd rfl hx.1
          · rintro ⟨_, hx⟩; simp [hsz, hilt] at hx
        · rw [getD_set_ne false (Ne.symm hji)]
          constructor
          · exact fun hx => (hm j).1 hx.2
          · exact fun hx => ⟨hji, (hm j).2 hx⟩
      · exfalso
        cases L with
        | nil => simp at hL
        | cons x L =>
          obtain ⟨hx, hxl⟩ := (hm x).1 (by simp)
          rw [(htail i (by omega) hilt x hx).ready h.closed hi] at hxl; cases hxl
theorem put_inj {a : Act} {d : Tmp} {u v : Value} (hd : d < a.tmps.size) (h : a.put (some d) u = a.put (some d) v) : u = v := by
  have h1 := congrArg (fun b => val b d) h
  simpa [val_put hd] using h1
/-- An operation is run at another Act that agrees on what the operation looks at. -/
theorem wp_agree {o : Oper} (hs : ∀ cs b, o.op ≠ .select cs b) {a ac : Act} {w : World} {K : Value → World → Prop} {d : Tmp} (ho : o.dst = some d) (hd : d < ac.tmps.size) (h : ∀ x ∈ o.op.operands, a.eval x = ac.eval x)
    (hh : o.wp P ac w (fun a' w' => ∃ v, a' = ac.put (some d) v ∧ K v w') (fun _ _ _ => False)) : o.wp P a w (fun a' w' => ∃ v, a' = a.put (some d) v ∧ K v w') (fun _ _ _ => False) := by
  unfold Oper.wp at *
  rw [execOp_congr o hs h]
  generalize (execOp ac.eval o).run P w = r at *
  cases r with
  | ok n w' =>
    cases n <;> simp only [Oper.upon, ho] at hh ⊢
    case value u => obtain ⟨v, e, k⟩ := hh; rw [put_inj hd e]; exact ⟨v, rfl, k⟩
    case skip => obtain ⟨v, e, k⟩ := hh; rw [put_inj hd e]; exact ⟨v, rfl, k⟩
    case defer x =>
      obtain ⟨v, e, k⟩ := hh
      have := congrArg Act.defers e
      simp [Act.put] at this
    case enter f args =>
      refine Calls.mono hh fun e w'' he => ?_
      cases e with
      | returned u => obtain ⟨v, e, k⟩ := he; rw [put_inj hd e]; exact ⟨v, rfl, k⟩
      | panicked c => exact he
      | outgrown => exact he
    case row row args => exact Rows.mono hh fun u w'' he => by obtain ⟨v, e, k⟩ := he; rw [put_inj hd e]; exact ⟨v, rfl, k⟩
  | halt x w' => cases x <;> simp only [Oper.upon] at hh ⊢
/-- everything but the tail is done -/
def Done (F : Nat) (dst : Nat → Tmp) (D : Nat → List Nat) (V : Facts) (a0 : Act) (w0 : World) (a : Act) (w : World) : Prop :=
  Below w0.heap.size w0 w ∧ a.tmps.size = a0.tmps.size ∧ a.defers = a0.defers ∧ (∀ t, (∀ j, j < F → dst j ≠ t) → a.tmps[t]? = a0.tmps[t]?) ∧
    ∃ R : Nat → Nat × Nat, (∀ j, j < F → V j ((D j).map fun k => val a (dst k)) (val a (dst j)) (R j).1 (R j).2 w ∧ w0.heap.size ≤ (R j).1 ∧ (R j).1 ≤ (R j).2 ∧ (R j).2 ≤ w.heap.size) ∧ ∀ j k, j < F → k < F → j ≠ k → (R j).2 ≤ (R k).1 ∨ (R k).2 ≤ (R j).1
def chkA (ops : Array Oper) (F : Nat) (dsts : List Tmp) (Ds : List (List Nat)) : Bool :=
  decide (ops.size = F + 1) && decide (dsts.length = F) && decide dsts.Nodup &&
    (List.range F).all (fun i => match ops[i]? with
      | none => false
      | some o => o.guard.isNone && decide (o.dst = some (dsts.getD i 0)) && o.after.toList.all (fun e => !Region.binds .any e || decide (e.on < i)) && (Ds.getD i []).all fun k => decide (k < F) && reach .any ops F i k) &&
    (List.range F).all (fun i => reach .any ops (F + 1) F i) &&
    (match ops[F]? with | none => false | some o => o.guard.isNone && o.after.toList.all (fun e => !Region.binds .any e || decide (e.on < F)))
/-- **A region that draws its order, one operation at the end, walked by facts.** -/
theorem wp_region_facts {id : Nat} {a0 : Act} {w : World} {l : List Oper} (F : Nat) (dsts : List Tmp) (Ds : List (List Nat)) (V : Facts) (hm : P.follows .mixedOrders = true) (hB : chkA l.toArray F dsts Ds = true) (hsz : ∀ t ∈ dsts, t < a0.tmps.size)
    (hst : ∀ j l v lo hi w w', Below w.heap.size w w' → V j l v lo hi w → V j l v lo hi w')
    (hop : ∀ i o, i < F → l[i]? = some o → ∀ a w', Leans F (fun j => dsts.getD j 0) (fun j => Ds.getD j []) V a0 w.drew i a w' → o.wp P a w' (fun a' w'' => ∃ v, a' = a.put (some (dsts.getD i 0)) v ∧ Below w'.heap.size w' w'' ∧ V i ((Ds.getD i []).map fun k => val a (dsts.getD k 0)) v w'.heap.size w''.heap.size w'') (fun _ _ _ => False))
    (hend : ∀ o, l[F]? = some o → ∀ a w', Done F (fun j => dsts.getD j 0) (fun j => Ds.getD j []) V a0 w.drew a w' → o.wp P a w' (fun a w => Q' .normal a w) (fun _ _ _ => False)) : (Code.region id l.toArray true).wp P Q' a0 w := by
  simp only [chkA, Bool.and_eq_true, decide_eq_true_eq, List.all_eq_true, List.mem_range] at hB
  obtain ⟨⟨⟨⟨⟨hs, hl⟩, hnd⟩, hat⟩, htl⟩, hte⟩ := hB
  have hlt : ∀ j, j < F → dsts.getD j 0 ∈ dsts := fun j hj => by
    rw [List.getD_eq_getElem?_getD, List.getElem?_eq_getElem (by omega)]; exact List.getElem_mem (by omega)
  have hat' : ∀ i, i < F → ∃ o, l.toArray[i]? = some o ∧ o.guard = none ∧ o.dst = some (dsts.getD i 0) ∧ (∀ e ∈ o.after, Region.binds .any e = true → e.on < i) ∧ ∀ k ∈ Ds.getD i [], k < F ∧ Needs .any l.toArray i k := by
    intro i hi
    have := hat i hi
    cases ho : l.toArray[i]? with
    | none => rw [ho] at this; simp at this
    | some o =>
      rw [ho] at this
      simp only [Bool.and_eq_true, decide_eq_true_eq, List.all_eq_true, Bool.or_eq_true, Bool.not_eq_true', Option.isNone_iff_eq_none] at this
      obtain ⟨⟨⟨h1, h2⟩, h3⟩, h4⟩ := this
      refine ⟨o, rfl, h1, h2, fun e he hb => ?_, fun k hk => ⟨(h4 k hk).1, reach_needs (h4 k hk).2⟩⟩
      rcases h3 e (by simpa using he) with h5 | h5
      · rw [hb] at h5; cases h5
      · exact h5
  refine wp_region_any hm ?_
  have hmain := facts_any (P := P) (ops := l.toArray) (md := .any) (F := F) (dst := fun j => dsts.getD j 0) (D := fun j => Ds.getD j []) (V := V) (a0 := a0) (w0 := w.drew) (Q' := Q') ?_ ?_ ?_ hst ?_ ?_ ?_ ?_ ?_ F (List.range F) (Array.replicate l.toArray.size false) a0 w.drew (by simp) List.nodup_range ?_ ?_
  · rw [show l.toArray.size - F + F = l.toArray.size by omega] at hmain; exact hmain
  · intro j k hj hk e
    have e1 : dsts.getD j 0 = dsts.getD k 0 := e
    rw [List.getD_eq_getElem?_getD, List.getD_eq_getElem?_getD, List.getElem?_eq_getElem (show j < dsts.length by omega), List.getElem?_eq_getElem (show k < dsts.length by omega)] at e1
    simp only [Option.getD_some] at e1
    rcases Nat.lt_trichotomy j k with h | h | h
    · exact absurd e1 (List.pairwise_iff_getElem.1 hnd j k (by omega) (by omega) h)
    · exact h
    · exact absurd e1.symm (List.pairwise_iff_getElem.1 hnd k j (by omega) (by omega) h)
  · exact fun j hj => hsz _ (hlt j hj)
  · intro j hj k hk
    obtain ⟨o, _, _, _, _, h⟩ := hat' j hj
    exact h k hk
  · intro i hi
    obtain ⟨o, h1, h2, h3, _⟩ := hat' i hi
    exact ⟨o, h1, h2, h3⟩
  · intro i o hi ho e he hb
    obtain ⟨o', h1, _, _, h4, _⟩ := hat' i hi
    obtain rfl : o' = o := Option.some.inj (h1.symm.trans ho)
    exact h4 e he hb
  · intro t h1 h2 i hi
    obtain rfl : t = F := by omega
    exact reach_needs (htl i hi)
  · intro i o hi ho a w' hle
    exact hop i o hi (by simpa using ho) a w' hle
  · intro listed a w' h hall
    obtain ⟨o, ho⟩ : ∃ o, l.toArray[F]? = some o := ⟨_, Array.getElem?_eq_getElem (by omega)⟩
    rw [ho] at hte
    simp only [Bool.and_eq_true, List.all_eq_true, Bool.or_eq_true, Bool.not_eq_true', decide_eq_true_eq, Option.isNone_iff_eq_none] at hte
    have hFs : F < listed.size := by rw [h.size]; omega
    have hready : F ∈ Region.ready .any l.toArray listed := mem_ready.2 ⟨by have := h.noTail F (Nat.le_refl _); simp [hFs] at this ⊢; exact this, o, ho, fun e he hb => hall _ (by
      rcases hte.2 e (by simpa using he) with h5 | h5
      · rw [hb] at h5; cases h5
      · exact h5)⟩
    rw [show l.toArray.size - F = 0 + 1 by omega]
    refine ⟨fun hr => (by rw [hr] at hready; cases hready), fun i hi => ?_⟩
    obtain ⟨hun, oi, hoi, _⟩ := mem_ready.1 hi
    have hilt : i < l.toArray.size := (Array.getElem?_eq_some_iff.1 hoi).1
    obtain rfl : i = F := by
      by_cases hiF : i < F
      · exact absurd hun (getD_tf (by rw [h.size]; exact hilt) (hall i hiF))
      · omega
    obtain rfl : oi = o := Option.some.inj (hoi.symm.trans ho)
    unfold wpOp
    simp only [hoi]
    rw [if_pos (by simp [Region.wanted, hte.1])]
    refine .inl (wp_noexit (Oper.wp_mono (fun a' w'' hk => ⟨?_, hk⟩) (hend oi (by simpa using ho) a w' ⟨h.ext, h.tm, h.df, h.agree, ?_⟩)))
    · refine List.eq_nil_iff_forall_not_mem.2 fun j hj => ?_
      obtain ⟨hun', oj, hoj, _⟩ := mem_ready.1 hj
      have hjlt : j < l.toArray.size := (Array.getElem?_eq_some_iff.1 hoj).1
      by_cases hji : j = i
      · subst hji; simp [hFs] at hun'
      · rw [getD_set_ne true (Ne.symm hji)] at hun'
        exact absurd hun' (getD_tf (by rw [h.size]; exact hjlt) (hall j (by omega)))
    · obtain ⟨R, h1, h2⟩ := h.facts
      exact ⟨R, fun j hj => h1 j hj (hall j hj), fun j k hj hk hjk => h2 j k hj hk hjk (hall j hj) (hall k hk)⟩
  · intro j
    simp only [List.mem_range]
    constructor
    · intro hj; refine ⟨hj, ?_⟩; simp [Array.getD]
    · exact fun h => h.1
  · refine ⟨by simp, fun k ok hk hl => ?_, ⟨rfl, rfl, rfl, Nat.le_refl _, fun _ _ => rfl⟩, rfl, rfl, fun _ _ => rfl, fun i _ => by simp [Array.getD], fun _ => (0, 0), fun j _ hl => ?_, fun j k _ _ _ hl _ => ?_⟩
    all_goals simp [Array.getD] at hl
end
end MixA
end Go.Proofs.YtebjpmmgdkepjaaGreatDoor
