/-
  Contracts of chapter 18: applications and numerals of the reference.
-/
import Derived.Test.YtfgnhdmiglobhaaC18a
import Derived.Test.YtfgnhdmiglobhaaC12f
namespace Go.Proofs.Ytfgnhdmiglobhaa
open Go.RowKit

set_option maxHeartbeats 2000000 in
set_option maxRecDepth 100000 in
theorem l18Apply_c (A : Option Addr) (n c : Nat) (xs : List (Int × Int)) (G : Option Addr) (m mc N : Nat) (its : List ItV) (w : World) (h : Rd2 w A n xs) (hG : RdV w 2 G m its) (hm : m ≤ 1000) (hn : n ≤ 1000000) (hs : sumV its ≤ 1000000) (hN : m + n + sumV its = N) :
    Calls Try.prog 64 #[.slice A n c, .slice G m mc] w (CatOut 2 N ((List.replicate m ((0 : Int), (0 : Int))).flatMap enc2 ++ xs.flatMap enc2 ++ its.flatMap ItV.vs) w) := by
  have HL := Lib.hid hG.len
  have H := Lib.hid h; have HG := Lib.hid hG; have HN := Lib.hid hN
  have hNb : N ≤ 3000000 := by omega
  clear h hG hN
  have hmk : ∀ w, (Instr.makeSlice 24 (.int .i64 m) (.int .i64 m)).run Try.prog w = .ok (.slice (some ⟨w.heap.size, 0, none⟩) m m) (w.alloc (.cells (Array.replicate (m * 2) (.int .i64 0)) 50)) := fun w => run_mkK (P := Try.prog) 24 50 _ (.int .i64 0) 16 2 (by omega) Try.underlying24 info_pComb rfl .i64 .i64 m m (by omega) (by omega) (by omega) w
  have O0 := Lib.hid (show Own (w.alloc (.cells (Array.replicate (m * 2) (.int .i64 0)) 50)) w.heap.size 50 2 (some ⟨w.heap.size, 0, none⟩) m m ((List.replicate m ((0 : Int), (0 : Int))).flatMap enc2) from
    Own.fullK (Nat.le_refl _) (by rw [← repC2_full]; have := repC2_zero m (0, 0); rw [show repC2 m m (0, 0) = repC2 m 0 (0, 0) by simp [repC2], this]; simp) (by rw [flatX_len enc2 2 enc2_len]; simp) (by omega))
  have H0 := Lib.hid (show Rd2 (w.alloc (.cells (Array.replicate (m * 2) (.int .i64 0)) 50)) A n xs from H.out.alloc _)
  go_enter Try.func64, Try.ntmps64
  go_wp2_with (at_builtin; refine wp_appComb (by rfl) _ _ (by rfl) w.heap.size _ _ _ _ (by rfl) (by exact O0.out) A n c xs (by rfl) (by exact H0.out) (by omega) (by simp) ?_; intro A1 c1 w1 own1 hb1 hk1 hg1 hz1)
  have O1 := Lib.hid own1; have B1 := Lib.hid ((below_size.alloc (Nat.le_refl _) (.cells (Array.replicate (m * 2) (.int .i64 0)) 50)).trans hb1)
  clear own1 hb1 hk1 hg1 hz1 hmk O0 H0
  go_wp2_with fail
  go_loopw [5, 6] (fun ov iv wr => ∃ (j p oc : Nat) (O : Option Addr), j ≤ m ∧ iv = .int .i64 j ∧ ov = .slice O p oc ∧ p ≤ N ∧ Hid (p = m + n + sumV (its.take j)) ∧ Hid (Own wr w.heap.size 50 2 O p oc ((List.replicate m ((0 : Int), (0 : Int))).flatMap enc2 ++ xs.flatMap enc2 ++ (its.take j).flatMap ItV.vs)) ∧ Below w.heap.size w wr) (fun _ iv _ => m - (intOf iv).toNat)
  case atStart => exact ⟨0, m + n, c1, A1, by omega, rfl, rfl, by have := HN.out; omega, by simp [Hid, sumV], by unfold Hid; simpa using O1.out, B1.out⟩
  case round =>
    obtain ⟨j, p, oc, O, hj, rfl, rfl, hp, hr, hO, hb⟩ := hrel
    have HB := Lib.hid hb
    have hwz := hb.size
    by_cases hlt : j < m
    · obtain ⟨ad, t, rfl, ht, hc, hrd, hone⟩ := (HG.out.below hb).at_ hlt
      have HS := Lib.hid (sumV_take ht)
      have HT := Lib.hid (sumV_le (its := its) (k := j + 1))
      have hqt : p + t.n ≤ N := by have h1 := hr.out; have h2 := HS.out; have h3 := HT.out; have h4 := HN.out; omega
      have HR := Lib.hid (show p + t.n = m + n + sumV (its.take (j + 1)) by have h1 := hr.out; have h2 := HS.out; omega)
      have HF := Lib.hid (show (its.take (j + 1)).flatMap ItV.vs = (its.take j).flatMap ItV.vs ++ t.vs by rw [take_at ht]; simp)
      have ONE := Lib.hid hone; have RD := Lib.hid hrd
      have hcap := hO.out.cap
      clear ht hr hb hrd hone
      by_cases h0 : t.n = 0
      · have HV := Lib.hid (show t.vs = [] from List.length_eq_zero_iff.1 (by have := RD.out.1; rw [h0] at this; omega))
        obtain ⟨tA, tn, tc, tv⟩ := t
        simp only at h0 hc HS hqt HR HF HV
        subst h0
        go_wp2_with (at_builtin; refine wp_app0 (by rfl) _ _ 24 50 (.agg #[.int .i64 0, .int .i64 0]) 2 16 (by rfl) Try.underlying24 info_pComb O p oc (by rfl) hcap tA tc (by rfl) ?_)
        go_roundw
        case rel => exact ⟨j + 1, p, oc, O, by omega, by go_num, rfl, hp, HR.out, by unfold Hid; rw [HF.out, HV.out, List.append_nil]; exact hO.out, HB.out⟩
        case measure => simp [intOf]; omega
      · obtain ⟨ta, hta, htb, htc⟩ := RD.out.2 (by omega)
        have HTC := Lib.hid htc; have HTL := Lib.hid RD.out.1
        obtain ⟨tA, tn, tc, tv⟩ := t
        simp only at h0 hc HS hqt HR HF hta htb HTC HTL ONE
        subst hta
        clear htc RD
        go_wp2_with (at_builtin; refine wp_app (by rfl) _ _ 24 50 (.agg #[.int .i64 0, .int .i64 0]) 2 16 (by rfl) Try.underlying24 info_pComb rfl (by omega) w.heap.size O p oc _ (by rfl) (by exact hO.out) ta tn tc tv (by rfl) (by omega) HTL.out (by exact HTC.out) ONE.out (by omega) (by omega) hwz ?_; intro g' cap w3 own3 hb3 hk3 hg3 hz3)
        have O3 := Lib.hid own3
        have B3 := Lib.hid (HB.out.trans hb3)
        clear own3 hb3 hk3 hg3 hz3
        go_wp2_with fail
        go_roundw
        case rel => exact ⟨j + 1, p + tn, cap, some ⟨g', 0, none⟩, by omega, by go_num, rfl, hqt, HR.out, by unfold Hid; rw [HF.out, ← List.append_assoc]; exact O3.out, B3.out⟩
        case measure => simp [intOf]; omega
    · have e1 := Lib.hid (show its.take j = its from List.take_of_length_le (by rw [HL.out]; omega))
      have HP := Lib.hid (show p = N by rw [hr.out, e1.out, HN.out])
      clear hb hr
      go_wp2_with fail
      go_ret
      have h1 := hO.out
      rw [e1.out] at h1
      have hp2 := HP.out
      subst hp2
      exact ⟨O, oc, rfl, h1.wrK, h1.cap, HB.out⟩
/-- the number's value, or -1 -/
def cntI (o : List (Int × Int)) : Int := if cntR o = true then (((o.length - 1) / 2 : Nat) : Int) else -1
theorem pair_cases (a b x y : Int) : ((a, b) = (x, y) ∧ a = x ∧ b = y) ∨ ((a, b) ≠ (x, y) ∧ ((a == x) = false ∨ (a = x ∧ (b == y) = false))) := by
  by_cases ha : a = x
  · by_cases hb : b = y
    · subst ha; subst hb; exact .inl ⟨rfl, rfl, rfl⟩
    · exact .inr ⟨fun e => by injection e with _ e; exact hb e, .inr ⟨ha, by simpa using hb⟩⟩
  · exact .inr ⟨fun e => by injection e with e _; exact ha e, .inl (by simpa using ha)⟩
set_option maxHeartbeats 4000000 in
set_option maxRecDepth 100000 in
theorem l18Count_c (ad : Addr) (n cp : Nat) (c : List (Int × Int)) (R : Int) (w : World) (h : Rd2 w (some ad) n c) (hn : 1 ≤ n ∧ n ≤ 400) (hR : cntI c = R) :
    Calls Try.prog 65 #[.slice (some ad) n cp] w fun e w' => e = .returned (.int .i64 R) ∧ Below w.heap.size w w' := by
  have HL := Lib.hid h.len
  have H := Lib.hid h; have HR := Lib.hid hR; clear h hR
  by_cases hodd : n % 2 = 0
  · have HG := Lib.hid (show -1 = R by
      rw [← HR.out, cntI, if_neg]
      intro h; have := (cntR_odd h).1; rw [HL.out] at this; omega)
    have v1 : (n : Int).tmod 2 = 0 := by rw [Int.tmod_eq_emod_of_nonneg (by omega)]; omega
    go_enter Try.func65, Try.ntmps65
    go_wp2_with fail
    refine Mix.wp_region_mix [0, 0, 0, 0, 0, 0, 0, 0, 3, 1, 0, 1, 0, 0] (fun w' => ∃ x : Ext w, w' = x.w) (by kernel_rfl) (by kernel_rfl) (InExt.drew _) ?_
    repeat (first | (refine Mix.wpMix_read (by rfl) ?_; go_big_quiet_step (fail); refine wpQuiet_nil ?_) | (refine Mix.wpMix_pure (by rfl) ?_; go_big_quiet_step (fail); refine wpQuiet_nil ?_))
    repeat (refine Mix.wpMix_skip (by rfl) ?_; simp only [Act.put, List.setIfInBounds_toArray, List.set_cons_succ, List.set_cons_zero])
    repeat (first | (refine Mix.wpMix_read (by rfl) ?_; go_big_quiet_step (fail); refine wpQuiet_nil ?_) | (refine Mix.wpMix_pure (by rfl) ?_; go_big_quiet_step (fail); refine wpQuiet_nil ?_))
    (refine Mix.wpMix_nil ?_; try simp only [Exit.then])
    go_wp2_with fail
    go_ret
    exact ⟨by rw [← HG.out]; rfl, below_drew below_size⟩
  obtain ⟨n1, rfl⟩ : ∃ n1, n = n1 + 1 := ⟨n - 1, by omega⟩
  have v1 : (((n1 : Int) + 1) % 2 == 0) = false := by simp; omega
  have v2 : IntKind.i64.wrap ((n1 : Int) + 1 - 1) = (n1 : Int) := by rw [IntWalk.i64_in _ (by omega)]; omega
  obtain ⟨_, x, e, hab, hx, hc0, hc1⟩ := H.out.at_ (k := n1) (by omega)
  injection e with e; subst e
  obtain ⟨t, u⟩ := x
  simp only at hc0 hc1
  have HX := Lib.hid hx
  clear hx
  have z0 := Ext.cell hc0; have z1 := Ext.cell hc1
  rcases pair_cases t u 4 1 with ⟨_, rfl, rfl⟩ | ⟨hne, hne2⟩
  case inr =>
    have HG := Lib.hid (show -1 = R by
      rw [← HR.out, cntI, if_neg]
      intro h
      have h1 := (cntR_odd h).2
      rw [HL.out, Nat.add_sub_cancel, HX.out] at h1
      injection h1 with h1
      exact hne h1)
    rcases hne2 with g1 | ⟨rfl, g1⟩
    · go_enter Try.func65, Try.ntmps65
      go_wp2_with fail
      refine Mix.wp_region_mix [0, 0, 0, 0, 0, 0, 0, 0, 3, 1, 0, 1, 0, 0] (fun w' => ∃ x : Ext w, w' = x.w) (by kernel_rfl) (by kernel_rfl) (InExt.drew _) ?_
      repeat (first | (refine Mix.wpMix_read (by rfl) ?_; go_big_quiet_step (fail); refine wpQuiet_nil ?_) | (refine Mix.wpMix_pure (by rfl) ?_; go_big_quiet_step (fail); refine wpQuiet_nil ?_))
      refine Mix.wpMix_chg (by rfl) (fun K hK => ?_)
      go_wp2_with fail
      refine (l18Name_c 1 _).mono ?_
      rintro e w1 ⟨rfl, rfl⟩
      go_wp2_with fail
      refine hK _ _ ⟨⟨_, below_drew (below_size.alloc (Nat.le_refl _) _)⟩, rfl⟩ ?_
      clear hK K
      repeat (first | (refine Mix.wpMix_read (by rfl) ?_; go_big_quiet_step (fail); refine wpQuiet_nil ?_) | (refine Mix.wpMix_pure (by rfl) ?_; go_big_quiet_step (fail); refine wpQuiet_nil ?_))
      have b0 : (w.alloc (.cells #[.int .i64 4, .int .i64 1] 50)).drew.cell? ⟨w.heap.size, 0, none⟩ = some (.int .i64 4) := new_cell w _ _ 0
      have b1 : (w.alloc (.cells #[.int .i64 4, .int .i64 1] 50)).drew.cell? ⟨w.heap.size, 1, none⟩ = some (.int .i64 1) := new_cell w _ _ 1
      refine Mix.wpMix_chg (by rfl) (fun K hK => ?_)
      go_wp2_with fail
      refine hK _ _ ⟨⟨_, below_drew (below_size.alloc (Nat.le_refl _) _)⟩, rfl⟩ ?_
      clear hK K
      repeat (first | (refine Mix.wpMix_read (by rfl) ?_; go_big_quiet_step (fail); refine wpQuiet_nil ?_) | (refine Mix.wpMix_pure (by rfl) ?_; go_big_quiet_step (fail); refine wpQuiet_nil ?_))
      (refine Mix.wpMix_nil ?_; try simp only [Exit.then])
      go_wp2_with fail
      go_ret
      exact ⟨by rw [← HG.out]; rfl, below_drew (below_size.alloc (Nat.le_refl _) _)⟩
    · go_enter Try.func65, Try.ntmps65
      go_wp2_with fail
      refine Mix.wp_region_mix [0, 0, 0, 0, 0, 0, 0, 0, 3, 1, 0, 1, 0, 0] (fun w' => ∃ x : Ext w, w' = x.w) (by kernel_rfl) (by kernel_rfl) (InExt.drew _) ?_
      repeat (first | (refine Mix.wpMix_read (by rfl) ?_; go_big_quiet_step (fail); refine wpQuiet_nil ?_) | (refine Mix.wpMix_pure (by rfl) ?_; go_big_quiet_step (fail); refine wpQuiet_nil ?_))
      refine Mix.wpMix_chg (by rfl) (fun K hK => ?_)
      go_wp2_with fail
      refine (l18Name_c 1 _).mono ?_
      rintro e w1 ⟨rfl, rfl⟩
      go_wp2_with fail
      refine hK _ _ ⟨⟨_, below_drew (below_size.alloc (Nat.le_refl _) _)⟩, rfl⟩ ?_
      clear hK K
      repeat (first | (refine Mix.wpMix_read (by rfl) ?_; go_big_quiet_step (fail); refine wpQuiet_nil ?_) | (refine Mix.wpMix_pure (by rfl) ?_; go_big_quiet_step (fail); refine wpQuiet_nil ?_))
      have b0 : (w.alloc (.cells #[.int .i64 4, .int .i64 1] 50)).drew.cell? ⟨w.heap.size, 0, none⟩ = some (.int .i64 4) := new_cell w _ _ 0
      have b1 : (w.alloc (.cells #[.int .i64 4, .int .i64 1] 50)).drew.cell? ⟨w.heap.size, 1, none⟩ = some (.int .i64 1) := new_cell w _ _ 1
      refine Mix.wpMix_chg (by rfl) (fun K hK => ?_)
      go_wp2_with fail
      refine hK _ _ ⟨⟨_, below_drew (below_size.alloc (Nat.le_refl _) _)⟩, rfl⟩ ?_
      clear hK K
      repeat (first | (refine Mix.wpMix_read (by rfl) ?_; go_big_quiet_step (fail); refine wpQuiet_nil ?_) | (refine Mix.wpMix_pure (by rfl) ?_; go_big_quiet_step (fail); refine wpQuiet_nil ?_))
      (refine Mix.wpMix_nil ?_; try simp only [Exit.then])
      go_wp2_with fail
      go_ret
      exact ⟨by rw [← HG.out]; rfl, below_drew (below_size.alloc (Nat.le_refl _) _)⟩
  case inl =>
    go_enter Try.func65, Try.ntmps65
    go_wp2_with fail
    refine Mix.wp_region_mix [0, 0, 0, 0, 0, 0, 0, 0, 3, 1, 0, 1, 0, 0] (fun w' => ∃ x : Ext w, w' = x.w) (by kernel_rfl) (by kernel_rfl) (InExt.drew _) ?_
    repeat (first | (refine Mix.wpMix_read (by rfl) ?_; go_big_quiet_step (fail); refine wpQuiet_nil ?_) | (refine Mix.wpMix_pure (by rfl) ?_; go_big_quiet_step (fail); refine wpQuiet_nil ?_))
    refine Mix.wpMix_chg (by rfl) (fun K hK => ?_)
    go_wp2_with fail
    refine (l18Name_c 1 _).mono ?_
    rintro e w1 ⟨rfl, rfl⟩
    go_wp2_with fail
    refine hK _ _ ⟨⟨_, below_drew (below_size.alloc (Nat.le_refl _) _)⟩, rfl⟩ ?_
    clear hK K
    repeat (first | (refine Mix.wpMix_read (by rfl) ?_; go_big_quiet_step (fail); refine wpQuiet_nil ?_) | (refine Mix.wpMix_pure (by rfl) ?_; go_big_quiet_step (fail); refine wpQuiet_nil ?_))
    have b0 : (w.alloc (.cells #[.int .i64 4, .int .i64 1] 50)).drew.cell? ⟨w.heap.size, 0, none⟩ = some (.int .i64 4) := new_cell w _ _ 0
    have b1 : (w.alloc (.cells #[.int .i64 4, .int .i64 1] 50)).drew.cell? ⟨w.heap.size, 1, none⟩ = some (.int .i64 1) := new_cell w _ _ 1
    refine Mix.wpMix_chg (by rfl) (fun K hK => ?_)
    go_wp2_with fail
    refine hK _ _ ⟨⟨_, below_drew (below_size.alloc (Nat.le_refl _) _)⟩, rfl⟩ ?_
    clear hK K
    repeat (first | (refine Mix.wpMix_read (by rfl) ?_; go_big_quiet_step (fail); refine wpQuiet_nil ?_) | (refine Mix.wpMix_pure (by rfl) ?_; go_big_quiet_step (fail); refine wpQuiet_nil ?_))
    (refine Mix.wpMix_nil ?_; try simp only [Exit.then])
    go_wp2_with fail
    have BB := Lib.hid (show Below w.heap.size w (w.alloc (.cells #[.int .i64 4, .int .i64 1] 50)).drew from below_drew (below_size.alloc (Nat.le_refl _) _))
    clear hc0 hc1 z0 z1 b0 b1
    go_loopw [4] (fun iv wr => ∃ k : Nat, k ≤ n1 ∧ k % 2 = 0 ∧ iv = .int .i64 k ∧ Hid (cntR (c.drop k) = cntR c) ∧ Below w.heap.size w wr) (fun iv _ => n1 - (intOf iv).toNat)
    case atStart => exact ⟨0, by omega, by omega, rfl, rfl, BB.out⟩
    case round =>
      obtain ⟨k, hk, hk2, rfl, hr, hb⟩ := hrel
      have HB := Lib.hid hb
      by_cases hlt : k < n1
      · have RD := H.out.below hb
        obtain ⟨_, x, e, _, hx, hc0, _⟩ := RD.at_ (k := k) (by omega)
        injection e with e; subst e
        obtain ⟨_, y, e, _, hy, hy0, hy1⟩ := RD.at_ (k := k + 1) (by omega)
        injection e with e; subst e
        obtain ⟨p, v⟩ := x
        obtain ⟨a, b⟩ := y
        have HS := Lib.hid (show (decide (p = 0) && decide ((a, b) = ((4 : Int), (0 : Int))) && cntR (c.drop (k + 2))) = cntR c by
          rw [← hr.out, drop_at hx, drop_at hy]; rfl)
        simp only at hc0 hy0 hy1
        have z0 := Ext.cell hc0; have z1 := Ext.cell hy0; have z2 := Ext.cell hy1
        clear hx hy hr hb RD
        by_cases hp : p = 0
        · subst hp
          rcases pair_cases a b 4 0 with ⟨_, rfl, rfl⟩ | ⟨hne, hne2⟩
          · have HG := Lib.hid (show cntR (c.drop (k + 2)) = cntR c by rw [← HS.out]; simp)
            go_wp2_with fail
            refine Mix.wp_region_mix [0, 0, 0, 0, 3, 0, 0, 0, 0, 0, 0, 3, 1, 0, 1, 0, 0] (fun w' => ∃ x : Ext wr, w' = x.w) (by kernel_rfl) (by kernel_rfl) (InExt.drew _) ?_
            repeat (first | (refine Mix.wpMix_read (by rfl) ?_; go_big_quiet_step (fail); refine wpQuiet_nil ?_) | (refine Mix.wpMix_pure (by rfl) ?_; go_big_quiet_step (fail); refine wpQuiet_nil ?_))
            refine Mix.wpMix_chg (by rfl) (fun K hK => ?_)
            go_wp2_with fail
            refine (l18Name_c 0 _).mono ?_
            rintro e w1 ⟨rfl, rfl⟩
            go_wp2_with fail
            refine hK _ _ ⟨⟨_, below_drew (below_size.alloc (Nat.le_refl _) _)⟩, rfl⟩ ?_
            clear hK K
            repeat (first | (refine Mix.wpMix_read (by rfl) ?_; go_big_quiet_step (fail); refine wpQuiet_nil ?_) | (refine Mix.wpMix_pure (by rfl) ?_; go_big_quiet_step (fail); refine wpQuiet_nil ?_))
            have b0 : (wr.alloc (.cells #[.int .i64 4, .int .i64 0] 50)).drew.cell? ⟨wr.heap.size, 0, none⟩ = some (.int .i64 4) := new_cell wr _ _ 0
            have b1 : (wr.alloc (.cells #[.int .i64 4, .int .i64 0] 50)).drew.cell? ⟨wr.heap.size, 1, none⟩ = some (.int .i64 0) := new_cell wr _ _ 1
            refine Mix.wpMix_chg (by rfl) (fun K hK => ?_)
            go_wp2_with fail
            refine hK _ _ ⟨⟨_, below_drew (below_size.alloc (Nat.le_refl _) _)⟩, rfl⟩ ?_
            clear hK K
            repeat (first | (refine Mix.wpMix_read (by rfl) ?_; go_big_quiet_step (fail); refine wpQuiet_nil ?_) | (refine Mix.wpMix_pure (by rfl) ?_; go_big_quiet_step (fail); refine wpQuiet_nil ?_))
            (refine Mix.wpMix_nil ?_; try simp only [Exit.then])
            go_wp2_with fail
            go_roundw
            case rel => exact ⟨k + 2, by omega, by omega, by go_num, HG.out, below_drew (HB.out.alloc HB.out.size _)⟩
            case measure => simp [intOf]; omega
          · have HG := Lib.hid (show -1 = R by rw [← HR.out, cntI, ← HS.out, decide_eq_false hne]; simp)
            rcases hne2 with g1 | ⟨rfl, g1⟩
            · go_wp2_with fail
              refine Mix.wp_region_mix [0, 0, 0, 0, 3, 0, 0, 0, 0, 0, 0, 3, 1, 0, 1, 0, 0] (fun w' => ∃ x : Ext wr, w' = x.w) (by kernel_rfl) (by kernel_rfl) (InExt.drew _) ?_
              repeat (first | (refine Mix.wpMix_read (by rfl) ?_; go_big_quiet_step (fail); refine wpQuiet_nil ?_) | (refine Mix.wpMix_pure (by rfl) ?_; go_big_quiet_step (fail); refine wpQuiet_nil ?_))
              refine Mix.wpMix_chg (by rfl) (fun K hK => ?_)
              go_wp2_with fail
              refine (l18Name_c 0 _).mono ?_
              rintro e w1 ⟨rfl, rfl⟩
              go_wp2_with fail
              refine hK _ _ ⟨⟨_, below_drew (below_size.alloc (Nat.le_refl _) _)⟩, rfl⟩ ?_
              clear hK K
              repeat (first | (refine Mix.wpMix_read (by rfl) ?_; go_big_quiet_step (fail); refine wpQuiet_nil ?_) | (refine Mix.wpMix_pure (by rfl) ?_; go_big_quiet_step (fail); refine wpQuiet_nil ?_))
              have b0 : (wr.alloc (.cells #[.int .i64 4, .int .i64 0] 50)).drew.cell? ⟨wr.heap.size, 0, none⟩ = some (.int .i64 4) := new_cell wr _ _ 0
              have b1 : (wr.alloc (.cells #[.int .i64 4, .int .i64 0] 50)).drew.cell? ⟨wr.heap.size, 1, none⟩ = some (.int .i64 0) := new_cell wr _ _ 1
              refine Mix.wpMix_chg (by rfl) (fun K hK => ?_)
              go_wp2_with fail
              refine hK _ _ ⟨⟨_, below_drew (below_size.alloc (Nat.le_refl _) _)⟩, rfl⟩ ?_
              clear hK K
              repeat (first | (refine Mix.wpMix_read (by rfl) ?_; go_big_quiet_step (fail); refine wpQuiet_nil ?_) | (refine Mix.wpMix_pure (by rfl) ?_; go_big_quiet_step (fail); refine wpQuiet_nil ?_))
              (refine Mix.wpMix_nil ?_; try simp only [Exit.then])
              go_wp2_with fail
              go_ret
              exact ⟨by rw [← HG.out]; rfl, below_drew (HB.out.alloc HB.out.size _)⟩
            · go_wp2_with fail
              refine Mix.wp_region_mix [0, 0, 0, 0, 3, 0, 0, 0, 0, 0, 0, 3, 1, 0, 1, 0, 0] (fun w' => ∃ x : Ext wr, w' = x.w) (by kernel_rfl) (by kernel_rfl) (InExt.drew _) ?_
              repeat (first | (refine Mix.wpMix_read (by rfl) ?_; go_big_quiet_step (fail); refine wpQuiet_nil ?_) | (refine Mix.wpMix_pure (by rfl) ?_; go_big_quiet_step (fail); refine wpQuiet_nil ?_))
              refine Mix.wpMix_chg (by rfl) (fun K hK => ?_)
              go_wp2_with fail
              refine (l18Name_c 0 _).mono ?_
              rintro e w1 ⟨rfl, rfl⟩
              go_wp2_with fail
              refine hK _ _ ⟨⟨_, below_drew (below_size.alloc (Nat.le_refl _) _)⟩, rfl⟩ ?_
              clear hK K
              repeat (first | (refine Mix.wpMix_read (by rfl) ?_; go_big_quiet_step (fail); refine wpQuiet_nil ?_) | (refine Mix.wpMix_pure (by rfl) ?_; go_big_quiet_step (fail); refine wpQuiet_nil ?_))
              have b0 : (wr.alloc (.cells #[.int .i64 4, .int .i64 0] 50)).drew.cell? ⟨wr.heap.size, 0, none⟩ = some (.int .i64 4) := new_cell wr _ _ 0
              have b1 : (wr.alloc (.cells #[.int .i64 4, .int .i64 0] 50)).drew.cell? ⟨wr.heap.size, 1, none⟩ = some (.int .i64 0) := new_cell wr _ _ 1
              refine Mix.wpMix_chg (by rfl) (fun K hK => ?_)
              go_wp2_with fail
              refine hK _ _ ⟨⟨_, below_drew (below_size.alloc (Nat.le_refl _) _)⟩, rfl⟩ ?_
              clear hK K
              repeat (first | (refine Mix.wpMix_read (by rfl) ?_; go_big_quiet_step (fail); refine wpQuiet_nil ?_) | (refine Mix.wpMix_pure (by rfl) ?_; go_big_quiet_step (fail); refine wpQuiet_nil ?_))
              (refine Mix.wpMix_nil ?_; try simp only [Exit.then])
              go_wp2_with fail
              go_ret
              exact ⟨by rw [← HG.out]; rfl, below_drew (HB.out.alloc HB.out.size _)⟩
        · have gp : (p != 0) = true := by simpa using hp
          have HG := Lib.hid (show -1 = R by rw [← HR.out, cntI, ← HS.out, decide_eq_false hp]; simp)
          go_wp2_with fail
          refine Mix.wp_region_mix [0, 0, 0, 0, 3, 0, 0, 0, 0, 0, 0, 3, 1, 0, 1, 0, 0] (fun w' => ∃ x : Ext wr, w' = x.w) (by kernel_rfl) (by kernel_rfl) (InExt.drew _) ?_
          repeat (first | (refine Mix.wpMix_read (by rfl) ?_; go_big_quiet_step (fail); refine wpQuiet_nil ?_) | (refine Mix.wpMix_pure (by rfl) ?_; go_big_quiet_step (fail); refine wpQuiet_nil ?_))
          repeat (refine Mix.wpMix_skip (by rfl) ?_; simp only [Act.put, List.setIfInBounds_toArray, List.set_cons_succ, List.set_cons_zero])
          repeat (first | (refine Mix.wpMix_read (by rfl) ?_; go_big_quiet_step (fail); refine wpQuiet_nil ?_) | (refine Mix.wpMix_pure (by rfl) ?_; go_big_quiet_step (fail); refine wpQuiet_nil ?_))
          (refine Mix.wpMix_nil ?_; try simp only [Exit.then])
          go_wp2_with fail
          go_ret
          exact ⟨by rw [← HG.out]; rfl, below_drew HB.out⟩
      · obtain rfl : k = n1 := by omega
        have HG := Lib.hid (show ((k / 2 : Nat) : Int) = R by
          rw [← HR.out, cntI, ← hr.out, drop_at HX.out, List.drop_eq_nil_of_le (by rw [HL.out]; exact Nat.le_refl _), if_pos (by simp [cntR]), HL.out, Nat.add_sub_cancel])
        clear hr hb
        go_wp2_with fail
        go_ret
        refine ⟨?_, HB.out⟩
        rw [← HG.out]
        exact ret_eq (by show Value.int .i64 ((k : Int) / 2) = Value.int .i64 ((k / 2 : Nat) : Int); rw [Int.natCast_ediv]; rfl)
end Go.Proofs.Ytfgnhdmiglobhaa
