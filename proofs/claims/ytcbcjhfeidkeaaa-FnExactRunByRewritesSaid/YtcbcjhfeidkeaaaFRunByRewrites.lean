/-
  FnExactRunByRewrites returns true for every input: its walk, out of the contracts.
-/
import Derived.Test.YtcbcjhfeidkeaaaLawMachine
import Derived.Test.YtcbcjhfeidkeaaaLawConfig
import Derived.Test.YtcbcjhfeidkeaaaC16u
import Derived.Test.YtcbcjhfeidkeaaaMixF
import Derived.Test.YtcbcjhfeidkeaaaOpen
import Derived.Deep.DeepCutAuto
namespace Go.Proofs.Ytcbcjhfeidkeaaa
open Go.RowKit

set_option maxHeartbeats 4000000 in
set_option maxRecDepth 100000 in
theorem walkRunByRewrites (sy0 : Int) (st0 : Int) (A0 : Option Addr) (n0 : Nat) (c0 : Nat) (xs0 : List (Int × Int × Int)) (st1 : Int) (A1 : Option Addr) (n1 : Nat) (c1 : Nat) (xs1 : List Int) (B1 : Option Addr) (m1 : Nat) (d1 : Nat) (ys1 : List Int) (x2 : Int) (w : World) (h0 : RdS w [sgX enc3 3 A0 n0 xs0]) (hb0_0 : n0 ≤ 9223372036854775807) (_o0 : i64ok sy0) (_p0 : i64ok st0) (_oo0 : ∀ x ∈ xs0, i64ok x.1 ∧ i64ok x.2.1 ∧ i64ok x.2.2) (h1 : RdS w ([sgI A1 n1 xs1] ++ [sgI B1 m1 ys1])) (hb1_0 : n1 ≤ 9223372036854775807) (hb1_1 : m1 ≤ 9223372036854775807) (_o1 : i64ok st1) (_oo1 : ∀ x ∈ xs1, i64ok x) (_pp1 : ∀ x ∈ ys1, i64ok x) (_o2 : i64ok x2) :
    Calls Try.prog 4 #[.agg #[.int .i64 sy0, .int .i64 st0, .slice A0 n0 c0], .agg #[.int .i64 st1, .slice A1 n1 c1, .slice B1 m1 d1], .int .i64 x2] w fun e w' => e = .returned (.bool true) ∧ Below w.heap.size w w' := by
  have P0 := Lib.hid (RdSU.mk' h0); clear h0
  have P1 := Lib.hid (RdSU.mk' h1); clear h1
  obtain ⟨RR, hRR⟩ : ∃ RR, rbwR sy0 st0 xs0 st1 xs1 ys1 x2 = RR := ⟨_, rfl⟩; have HRR := Lib.hid hRR; clear hRR
  go_enter Try.func4, Try.ntmps4
  go_wp2_with fail
  refine (szMachine_c _ _ _ _ _ xs0 _ _ hb0_0 (by omega) (by omega)).mono ?_
  rintro e w1 ⟨rfl, hb⟩
  have hb' : Below w.heap.size w w1 := (by first | (with_reducible exact hb) | (with_reducible exact up1 hb) | (with_reducible exact up2 hb) | (with_reducible exact up3 hb) | (with_reducible exact up4 hb) | (with_reducible exact below_of_drew hb) | (with_reducible exact below_of_drew (up1 hb)))
  have z1 := hb'.size
  have c1_a0_0 : w1.cell? ⟨w.heap.size, 0, none⟩ = some (.int .i64 sy0) := keepc hb (by first | (simp; done) | (rw [World.cell?_alloc_past _ _ _ (by simp <;> omega)]; simp; done) | (rw [World.cell?_alloc_past _ _ _ (by simp <;> omega), World.cell?_alloc_past _ _ _ (by simp <;> omega)]; simp; done) | (rw [World.cell?_alloc_past _ _ _ (by simp <;> omega), World.cell?_alloc_past _ _ _ (by simp <;> omega), World.cell?_alloc_past _ _ _ (by simp <;> omega)]; simp; done) | (rw [World.cell?_alloc_at _ _ _ _ (by simp)]; simp; done) | (rw [World.cell?_alloc_past _ _ _ (by simp <;> omega), World.cell?_alloc_at _ _ _ _ (by simp)]; simp; done) | (rw [World.cell?_alloc_past _ _ _ (by simp <;> omega), World.cell?_alloc_past _ _ _ (by simp <;> omega), World.cell?_alloc_at _ _ _ _ (by simp)]; simp; done) | (rw [World.cell?_alloc_past _ _ _ (by simp <;> omega), World.cell?_alloc_past _ _ _ (by simp <;> omega), World.cell?_alloc_past _ _ _ (by simp <;> omega), World.cell?_alloc_at _ _ _ _ (by simp)]; simp; done))
  have hl_c1_a0_0 : w.heap.size < w1.heap.size := World.block_lt_of_cell? w1 _ c1_a0_0
  have c1_a0_1 : w1.cell? ⟨w.heap.size, 1, none⟩ = some (.int .i64 st0) := keepc hb (by first | (simp; done) | (rw [World.cell?_alloc_past _ _ _ (by simp <;> omega)]; simp; done) | (rw [World.cell?_alloc_past _ _ _ (by simp <;> omega), World.cell?_alloc_past _ _ _ (by simp <;> omega)]; simp; done) | (rw [World.cell?_alloc_past _ _ _ (by simp <;> omega), World.cell?_alloc_past _ _ _ (by simp <;> omega), World.cell?_alloc_past _ _ _ (by simp <;> omega)]; simp; done) | (rw [World.cell?_alloc_at _ _ _ _ (by simp)]; simp; done) | (rw [World.cell?_alloc_past _ _ _ (by simp <;> omega), World.cell?_alloc_at _ _ _ _ (by simp)]; simp; done) | (rw [World.cell?_alloc_past _ _ _ (by simp <;> omega), World.cell?_alloc_past _ _ _ (by simp <;> omega), World.cell?_alloc_at _ _ _ _ (by simp)]; simp; done) | (rw [World.cell?_alloc_past _ _ _ (by simp <;> omega), World.cell?_alloc_past _ _ _ (by simp <;> omega), World.cell?_alloc_past _ _ _ (by simp <;> omega), World.cell?_alloc_at _ _ _ _ (by simp)]; simp; done))
  have c1_a0_2 : w1.cell? ⟨w.heap.size, 2, none⟩ = some (.slice A0 n0 c0) := keepc hb (by first | (simp; done) | (rw [World.cell?_alloc_past _ _ _ (by simp <;> omega)]; simp; done) | (rw [World.cell?_alloc_past _ _ _ (by simp <;> omega), World.cell?_alloc_past _ _ _ (by simp <;> omega)]; simp; done) | (rw [World.cell?_alloc_past _ _ _ (by simp <;> omega), World.cell?_alloc_past _ _ _ (by simp <;> omega), World.cell?_alloc_past _ _ _ (by simp <;> omega)]; simp; done) | (rw [World.cell?_alloc_at _ _ _ _ (by simp)]; simp; done) | (rw [World.cell?_alloc_past _ _ _ (by simp <;> omega), World.cell?_alloc_at _ _ _ _ (by simp)]; simp; done) | (rw [World.cell?_alloc_past _ _ _ (by simp <;> omega), World.cell?_alloc_past _ _ _ (by simp <;> omega), World.cell?_alloc_at _ _ _ _ (by simp)]; simp; done) | (rw [World.cell?_alloc_past _ _ _ (by simp <;> omega), World.cell?_alloc_past _ _ _ (by simp <;> omega), World.cell?_alloc_past _ _ _ (by simp <;> omega), World.cell?_alloc_at _ _ _ _ (by simp)]; simp; done))
  have c1_a1_0 : w1.cell? ⟨(w.heap.size + 1), 0, none⟩ = some (.int .i64 st1) := keepc hb (by first | (simp; done) | (rw [World.cell?_alloc_past _ _ _ (by simp <;> omega)]; simp; done) | (rw [World.cell?_alloc_past _ _ _ (by simp <;> omega), World.cell?_alloc_past _ _ _ (by simp <;> omega)]; simp; done) | (rw [World.cell?_alloc_past _ _ _ (by simp <;> omega), World.cell?_alloc_past _ _ _ (by simp <;> omega), World.cell?_alloc_past _ _ _ (by simp <;> omega)]; simp; done) | (rw [World.cell?_alloc_at _ _ _ _ (by simp)]; simp; done) | (rw [World.cell?_alloc_past _ _ _ (by simp <;> omega), World.cell?_alloc_at _ _ _ _ (by simp)]; simp; done) | (rw [World.cell?_alloc_past _ _ _ (by simp <;> omega), World.cell?_alloc_past _ _ _ (by simp <;> omega), World.cell?_alloc_at _ _ _ _ (by simp)]; simp; done) | (rw [World.cell?_alloc_past _ _ _ (by simp <;> omega), World.cell?_alloc_past _ _ _ (by simp <;> omega), World.cell?_alloc_past _ _ _ (by simp <;> omega), World.cell?_alloc_at _ _ _ _ (by simp)]; simp; done))
  have hl_c1_a1_0 : (w.heap.size + 1) < w1.heap.size := World.block_lt_of_cell? w1 _ c1_a1_0
  have c1_a1_1 : w1.cell? ⟨(w.heap.size + 1), 1, none⟩ = some (.slice A1 n1 c1) := keepc hb (by first | (simp; done) | (rw [World.cell?_alloc_past _ _ _ (by simp <;> omega)]; simp; done) | (rw [World.cell?_alloc_past _ _ _ (by simp <;> omega), World.cell?_alloc_past _ _ _ (by simp <;> omega)]; simp; done) | (rw [World.cell?_alloc_past _ _ _ (by simp <;> omega), World.cell?_alloc_past _ _ _ (by simp <;> omega), World.cell?_alloc_past _ _ _ (by simp <;> omega)]; simp; done) | (rw [World.cell?_alloc_at _ _ _ _ (by simp)]; simp; done) | (rw [World.cell?_alloc_past _ _ _ (by simp <;> omega), World.cell?_alloc_at _ _ _ _ (by simp)]; simp; done) | (rw [World.cell?_alloc_past _ _ _ (by simp <;> omega), World.cell?_alloc_past _ _ _ (by simp <;> omega), World.cell?_alloc_at _ _ _ _ (by simp)]; simp; done) | (rw [World.cell?_alloc_past _ _ _ (by simp <;> omega), World.cell?_alloc_past _ _ _ (by simp <;> omega), World.cell?_alloc_past _ _ _ (by simp <;> omega), World.cell?_alloc_at _ _ _ _ (by simp)]; simp; done))
  have c1_a1_2 : w1.cell? ⟨(w.heap.size + 1), 2, none⟩ = some (.slice B1 m1 d1) := keepc hb (by first | (simp; done) | (rw [World.cell?_alloc_past _ _ _ (by simp <;> omega)]; simp; done) | (rw [World.cell?_alloc_past _ _ _ (by simp <;> omega), World.cell?_alloc_past _ _ _ (by simp <;> omega)]; simp; done) | (rw [World.cell?_alloc_past _ _ _ (by simp <;> omega), World.cell?_alloc_past _ _ _ (by simp <;> omega), World.cell?_alloc_past _ _ _ (by simp <;> omega)]; simp; done) | (rw [World.cell?_alloc_at _ _ _ _ (by simp)]; simp; done) | (rw [World.cell?_alloc_past _ _ _ (by simp <;> omega), World.cell?_alloc_at _ _ _ _ (by simp)]; simp; done) | (rw [World.cell?_alloc_past _ _ _ (by simp <;> omega), World.cell?_alloc_past _ _ _ (by simp <;> omega), World.cell?_alloc_at _ _ _ _ (by simp)]; simp; done) | (rw [World.cell?_alloc_past _ _ _ (by simp <;> omega), World.cell?_alloc_past _ _ _ (by simp <;> omega), World.cell?_alloc_past _ _ _ (by simp <;> omega), World.cell?_alloc_at _ _ _ _ (by simp)]; simp; done))
  have ac1_a0_0 := fun o => keepa o c1_a0_0
  have ac1_a0_1 := fun o => keepa o c1_a0_1
  have ac1_a0_2 := fun o => keepa o c1_a0_2
  have ac1_a1_0 := fun o => keepa o c1_a1_0
  have ac1_a1_1 := fun o => keepa o c1_a1_1
  have ac1_a1_2 := fun o => keepa o c1_a1_2
  have rP0 := P0.out.below hb'; clear P0; have P0 := Lib.hid rP0; clear rP0
  have rP1 := P1.out.below hb'; clear P1; have P1 := Lib.hid rP1; clear rP1
  have rB := hb'; have B := Lib.hid rB; clear rB
  clear hb hb'
  by_cases hs1 : 1048576 < n0
  · rw [szOf_neg' (by omega)]
    go_wp2
    go_ret
    exact ⟨rfl, B.out⟩
  rw [szOf_pos' (by omega)]
  have hs1' : (0 : Int) ≤ 1048576 - (n0 : Nat) := by omega
  go_wp2_with fail
  refine (szConfig_c _ _ _ _ xs1 _ _ _ ys1 _ _ hb1_0 hb1_1 (by omega) (by omega)).mono ?_
  rintro e w2 ⟨rfl, hb⟩
  have hb' : Below w1.heap.size w1 w2 := (by first | (with_reducible exact hb) | (with_reducible exact up1 hb) | (with_reducible exact up2 hb) | (with_reducible exact up3 hb) | (with_reducible exact up4 hb) | (with_reducible exact below_of_drew hb) | (with_reducible exact below_of_drew (up1 hb)))
  have z2 := hb'.size
  have c2_a0_0 : w2.cell? ⟨w.heap.size, 0, none⟩ = some (.int .i64 sy0) := keepc hb' c1_a0_0
  clear c1_a0_0 ac1_a0_0
  have c2_a0_1 : w2.cell? ⟨w.heap.size, 1, none⟩ = some (.int .i64 st0) := keepc hb' c1_a0_1
  clear c1_a0_1 ac1_a0_1
  have c2_a0_2 : w2.cell? ⟨w.heap.size, 2, none⟩ = some (.slice A0 n0 c0) := keepc hb' c1_a0_2
  clear c1_a0_2 ac1_a0_2
  have c2_a1_0 : w2.cell? ⟨(w.heap.size + 1), 0, none⟩ = some (.int .i64 st1) := keepc hb' c1_a1_0
  clear c1_a1_0 ac1_a1_0
  have c2_a1_1 : w2.cell? ⟨(w.heap.size + 1), 1, none⟩ = some (.slice A1 n1 c1) := keepc hb' c1_a1_1
  clear c1_a1_1 ac1_a1_1
  have c2_a1_2 : w2.cell? ⟨(w.heap.size + 1), 2, none⟩ = some (.slice B1 m1 d1) := keepc hb' c1_a1_2
  clear c1_a1_2 ac1_a1_2
  have ac2_a0_0 := fun o => keepa o c2_a0_0
  have ac2_a0_1 := fun o => keepa o c2_a0_1
  have ac2_a0_2 := fun o => keepa o c2_a0_2
  have ac2_a1_0 := fun o => keepa o c2_a1_0
  have ac2_a1_1 := fun o => keepa o c2_a1_1
  have ac2_a1_2 := fun o => keepa o c2_a1_2
  have rP0 := P0.out.below hb'; clear P0; have P0 := Lib.hid rP0; clear rP0
  have rP1 := P1.out.below hb'; clear P1; have P1 := Lib.hid rP1; clear rP1
  have rB := below_chain B.out (by omega) hb'; clear B; have B := Lib.hid rB; clear rB
  clear hb hb'
  by_cases hs2 : 1048576 - (n0 : Nat) < (n1 + m1)
  · rw [szOf_neg' (by omega)]
    go_wp2
    go_ret
    exact ⟨rfl, B.out⟩
  rw [szOf_pos' (by omega)]
  have hs2' : (0 : Int) ≤ 1048576 - (n0 : Nat) - ((n1 + m1) : Nat) := by omega
  go_wp2_with fail
  go_cut [8, 9, 10, 11] (fun v0 v1 v2 v3 wx => ∃ (g17 : Nat) (A11 : Option Addr) (n12 : Nat) (c13 : Nat) (B14 : Option Addr) (m15 : Nat) (d16 : Nat), v0 = .pointer (some ⟨g17, 0, none⟩) ∧ v1 = .int .i64 RR.2.1 ∧ v2 = .bool RR.2.2.1 ∧ v3 = .int .i64 RR.2.2.2 ∧ wx.cell? ⟨g17, 0, none⟩ = some (.int .i64 RR.1.1) ∧ wx.cell? ⟨g17, 1, none⟩ = some (.slice A11 n12 c13) ∧ wx.cell? ⟨g17, 2, none⟩ = some (.slice B14 m15 d16) ∧ WrS wx w2.heap.size wx.heap.size ([sgI A11 n12 (RR.1.2).1] ++ [sgI B14 m15 (RR.1.2).2]) ∧ (n12 ≤ 1000000 ∧ m15 ≤ 1000000) ∧ w2.heap.size ≤ g17 ∧ Below w2.heap.size w2 wx)
  case first =>
    have fx_c2_a0_0 := Ext.cell c2_a0_0
    have fx_c2_a0_1 := Ext.cell c2_a0_1
    have fx_c2_a0_2 := Ext.cell c2_a0_2
    have fx_c2_a1_0 := Ext.cell c2_a1_0
    have fx_c2_a1_1 := Ext.cell c2_a1_1
    have fx_c2_a1_2 := Ext.cell c2_a1_2
    refine Mix.wp_region_mixF 11 [3, 1, 3, 1, 0, 1, 0, 0, 0, 0, 0, 1, 2, 0, 0, 0] (fun w' => ∃ x : Ext w2, w' = x.w) (by kernel_rfl) (by kernel_rfl) (InExt.drew _) _ _ (by rfl) ?_
    simp only [List.take_succ_cons, List.take_zero, List.drop_succ_cons, List.drop_zero]
    have e0 : Below w2.heap.size w2 w2.drew := InExt.out (InExt.drew _)
    refine Mix.wpF_3 ?_
    (refine Mix.wpMix_read (by rfl) ?_; go_big_quiet_step (fail); refine wpQuiet_nil ?_)
    refine Mix.wpMix_nil ?_
    refine Mix.wpF_1 ?_ ?_
    · simp only [List.cons_append, List.nil_append]
      have e0p := e0
      refine Mix.wpMix_chg (by rfl) (fun K hK => ?_)
      go_wp2_with fail
      refine hK _ _ ⟨⟨_, e0.alloc e0.size _⟩, rfl⟩ ?_
      clear hK K
      have bk : Blk (w2.drew.alloc (.cells #[.int .i64 0, .slice none 0 0, .slice none 0 0] 30)) w2.heap.size 30 #[.int .i64 0, .slice none 0 0, .slice none 0 0] := Blk.new _ _ _
      have e0 := e0.alloc e0.size (.cells #[.int .i64 0, .slice none 0 0, .slice none 0 0] 30)
      refine Mix.wpMix_chg (by rfl) (fun K hK => ?_)
      go_wp2_with fail
      refine (toMachine_c _ _ _ _ _ _ _ (by exact ((P0.out.rd).below e0)) (by omega)).mono ?_
      rintro e ua11 ⟨g020, rfl, q21, hb⟩
      try simp only [World.size_alloc] at q21
      have e0 := below_chain e0 e0.size hb
      have bk := bk.keep hb
      have e_q21 : Below ua11.heap.size ua11 ua11 := below_size
      have zua11 : w2.heap.size + 1 ≤ ua11.heap.size := by first | exact hb.size | exact Nat.le_trans (Nat.le_of_eq (World.size_alloc ..).symm) hb.size
      clear hb
      go_wp2_with fail
      refine hK _ _ ⟨⟨_, e0⟩, rfl⟩ ?_
      clear hK K
      (refine Mix.wpMix_read (by rfl) ?_; go_big_quiet_step (fail); refine wpQuiet_nil ?_)
      refine Mix.wpMix_chg (by rfl) (fun K hK => ?_)
      go_wp2_with fail
      refine (toConfig_c _ _ _ _ _ _ _ _ _ _ (by exact ((P1.out.rd).below e0)) (by omega) (by omega)).mono ?_
      rintro e ua13 ⟨g022, g123, rfl, q24, hb⟩
      try simp only [World.size_alloc] at q24
      have e_q21 := below_chain e_q21 e_q21.size hb
      have e0 := below_chain e0 e0.size hb
      have bk := bk.keep hb
      have e_q24 : Below ua13.heap.size ua13 ua13 := below_size
      have zua13 : ua11.heap.size ≤ ua13.heap.size := by first | exact hb.size | exact Nat.le_trans (Nat.le_of_eq (World.size_alloc ..).symm) hb.size
      clear hb
      go_wp2_with fail
      refine hK _ _ ⟨⟨_, e0⟩, rfl⟩ ?_
      clear hK K
      (refine Mix.wpMix_pure (by rfl) ?_; go_big_quiet_step (fail); refine wpQuiet_nil ?_)
      refine Mix.wpMix_chg (by rfl) (fun K hK => ?_)
      go_wp2_with fail
      refine (sRunByRewrites_c _ _ _ _ _ _ _ _ _ _ _ _ _ _ _ _ _ (by exact (q21.below e_q21).rd) (by exact (q24.below e_q24).rd) (by omega) (by omega) (by omega) HRR.out).mono ?_
      rintro e ua15 ⟨A11, n12, c13, B14, m15, d16, rfl, q18, l19, hb⟩
      have e_q21 := below_chain e_q21 e_q21.size hb
      have e_q24 := below_chain e_q24 e_q24.size hb
      have e0 := below_chain e0 e0.size hb
      have bk := bk.keep hb
      have e_q18 : Below ua15.heap.size ua15 ua15 := below_size
      have zua15 : ua13.heap.size ≤ ua15.heap.size := by first | exact hb.size | exact Nat.le_trans (Nat.le_of_eq (World.size_alloc ..).symm) hb.size
      have q18 : WrS ua15 (ua13.heap.size) ua15.heap.size ([sgI A11 n12 (RR.1.2).1] ++ [sgI B14 m15 (RR.1.2).2]) := by first | exact q18.wider (Nat.le_refl _) (Nat.le_refl _) | exact q18.wider (Nat.le_of_eq (World.size_alloc ..).symm) (Nat.le_refl _)
      clear hb
      go_wp2_with fail
      refine hK _ _ ⟨⟨_, e0⟩, rfl⟩ ?_
      clear hK K
      (refine Mix.wpMix_pure (by rfl) ?_; go_big_quiet_step (fail); refine wpQuiet_nil ?_)
      (refine Mix.wpMix_pure (by rfl) ?_; go_big_quiet_step (fail); refine wpQuiet_nil ?_)
      (refine Mix.wpMix_pure (by rfl) ?_; go_big_quiet_step (fail); refine wpQuiet_nil ?_)
      (refine Mix.wpMix_pure (by rfl) ?_; go_big_quiet_step (fail); refine wpQuiet_nil ?_)
      (refine Mix.wpMix_pure (by rfl) ?_; go_big_quiet_step (fail); refine wpQuiet_nil ?_)
      repeat (first | (refine Mix.wpMix_read (by rfl) ?_; go_big_quiet_step (fail); refine wpQuiet_nil ?_) | (refine Mix.wpMix_pure (by rfl) ?_; go_big_quiet_step (fail); refine wpQuiet_nil ?_))
      have d0 := bk.cell 0; have f0 := bk.frozen 0
      simp at d0
      have d1 := bk.cell 1; have f1 := bk.frozen 1
      simp at d1
      have d2 := bk.cell 2; have f2 := bk.frozen 2
      simp at d2
      refine Mix.wpMix_tail (by rfl) (fun K hK => ?_)
      go_wp2_with fail
      refine hK _ _ ?_
      clear hK K
      repeat (first | (refine Mix.wpMix_read (by rfl) ?_; go_big_quiet_step (fail); refine wpQuiet_nil ?_) | (refine Mix.wpMix_pure (by rfl) ?_; go_big_quiet_step (fail); refine wpQuiet_nil ?_))
      (refine Mix.wpMix_nil ?_; try simp only [Exit.then])
      go_wp2_with fail
      go_meet
      have bk2 := (((bk.set_ 0 (.int .i64 RR.1.1)).set_ 1 (.slice A11 n12 c13)).set_ 2 (.slice B14 m15 d16))
      refine ⟨w2.heap.size, A11, n12, c13, B14, m15, d16, rfl, rfl, rfl, rfl, (by have := bk2.cell 0; first | exact this | (simp; done) | simpa using this), (by have := bk2.cell 1; first | exact this | (simp; done) | simpa using this), (by have := bk2.cell 2; first | exact this | (simp; done) | simpa using this), ?_, l19, ?_, ?_⟩
      · first | exact (q18.alloc _).wider (by first | omega | exact Nat.le_refl _ | (simp; done) | (simp; omega)) (by first | omega | exact Nat.le_refl _ | (simp; done) | (simp; omega)) | exact (((q18.set_far (.inl (by first | omega | exact Nat.le_refl _ | (simp; done) | (simp; omega))) _).set_far (.inl (by first | omega | exact Nat.le_refl _ | (simp; done) | (simp; omega))) _).set_far (.inl (by first | omega | exact Nat.le_refl _ | (simp; done) | (simp; omega))) _).wider (by first | omega | exact Nat.le_refl _ | (simp; done) | (simp; omega)) (by first | omega | exact Nat.le_refl _ | (simp; done) | (simp; omega))
      · exact (by first | omega | exact Nat.le_refl _ | (simp; done) | (simp; omega))
      · first | exact (by have hzz := (e0).size; repeat' (first | (with_reducible exact e0) | (with_reducible refine Below.alloc ?_ ?_ _) | (with_reducible refine Below.setCell ?_ ?_ _) | (with_reducible refine below_drew ?_) | omega | (simp; done) | (simp; omega))) | exact (by have hzz := (e0p).size; repeat' (first | (with_reducible exact e0p) | (with_reducible refine Below.alloc ?_ ?_ _) | (with_reducible refine Below.setCell ?_ ?_ _) | (with_reducible refine below_drew ?_) | omega | (simp; done) | (simp; omega)))
    refine Mix.wpMix_chg (by rfl) (fun K hK => ?_)
    go_wp2_with fail
    refine (toMachine_c _ _ _ _ _ _ _ (by exact ((P0.out.rd).below e0)) (by omega)).mono ?_
    rintro e u1 ⟨g025, rfl, q26, hb⟩
    try simp only [World.size_alloc] at q26
    have e0 := below_chain e0 e0.size hb
    have e_q26 : Below u1.heap.size u1 u1 := below_size
    have zu1 : w2.heap.size ≤ u1.heap.size := by first | exact hb.size | exact Nat.le_trans (Nat.le_of_eq (World.size_alloc ..).symm) hb.size
    clear hb
    go_wp2_with fail
    refine hK _ _ ⟨⟨_, e0⟩, rfl⟩ ?_
    clear hK K
    refine Mix.wpMix_nil ?_
    refine Mix.wpF_3 ?_
    (refine Mix.wpMix_read (by rfl) ?_; go_big_quiet_step (fail); refine wpQuiet_nil ?_)
    refine Mix.wpMix_nil ?_
    refine Mix.wpF_1 ?_ ?_
    · simp only [List.cons_append, List.nil_append]
      have e0p := e0
      refine Mix.wpMix_chg (by rfl) (fun K hK => ?_)
      go_wp2_with fail
      refine hK _ _ ⟨⟨_, e0.alloc e0.size _⟩, rfl⟩ ?_
      clear hK K
      have e_q26 := e_q26.alloc e_q26.size (.cells #[.int .i64 0, .slice none 0 0, .slice none 0 0] 30)
      have bk : Blk (u1.alloc (.cells #[.int .i64 0, .slice none 0 0, .slice none 0 0] 30)) u1.heap.size 30 #[.int .i64 0, .slice none 0 0, .slice none 0 0] := Blk.new _ _ _
      have e0 := e0.alloc e0.size (.cells #[.int .i64 0, .slice none 0 0, .slice none 0 0] 30)
      refine Mix.wpMix_chg (by rfl) (fun K hK => ?_)
      go_wp2_with fail
      refine (toConfig_c _ _ _ _ _ _ _ _ _ _ (by exact ((P1.out.rd).below e0)) (by omega) (by omega)).mono ?_
      rintro e ua33 ⟨g027, g128, rfl, q29, hb⟩
      try simp only [World.size_alloc] at q29
      have e_q26 := below_chain e_q26 e_q26.size hb
      have e0 := below_chain e0 e0.size hb
      have bk := bk.keep hb
      have e_q29 : Below ua33.heap.size ua33 ua33 := below_size
      have zua33 : u1.heap.size + 1 ≤ ua33.heap.size := by first | exact hb.size | exact Nat.le_trans (Nat.le_of_eq (World.size_alloc ..).symm) hb.size
      clear hb
      go_wp2_with fail
      refine hK _ _ ⟨⟨_, e0⟩, rfl⟩ ?_
      clear hK K
      (refine Mix.wpMix_pure (by rfl) ?_; go_big_quiet_step (fail); refine wpQuiet_nil ?_)
      refine Mix.wpMix_chg (by rfl) (fun K hK => ?_)
      go_wp2_with fail
      refine (sRunByRewrites_c _ _ _ _ _ _ _ _ _ _ _ _ _ _ _ _ _ (by exact (q26.below e_q26).rd) (by exact (q29.below e_q29).rd) (by omega) (by omega) (by omega) HRR.out).mono ?_
      rintro e ua35 ⟨A11, n12, c13, B14, m15, d16, rfl, q18, l19, hb⟩
      have e_q26 := below_chain e_q26 e_q26.size hb
      have e_q29 := below_chain e_q29 e_q29.size hb
      have e0 := below_chain e0 e0.size hb
      have bk := bk.keep hb
      have e_q18 : Below ua35.heap.size ua35 ua35 := below_size
      have zua35 : ua33.heap.size ≤ ua35.heap.size := by first | exact hb.size | exact Nat.le_trans (Nat.le_of_eq (World.size_alloc ..).symm) hb.size
      have q18 : WrS ua35 (ua33.heap.size) ua35.heap.size ([sgI A11 n12 (RR.1.2).1] ++ [sgI B14 m15 (RR.1.2).2]) := by first | exact q18.wider (Nat.le_refl _) (Nat.le_refl _) | exact q18.wider (Nat.le_of_eq (World.size_alloc ..).symm) (Nat.le_refl _)
      clear hb
      go_wp2_with fail
      refine hK _ _ ⟨⟨_, e0⟩, rfl⟩ ?_
      clear hK K
      (refine Mix.wpMix_pure (by rfl) ?_; go_big_quiet_step (fail); refine wpQuiet_nil ?_)
      (refine Mix.wpMix_pure (by rfl) ?_; go_big_quiet_step (fail); refine wpQuiet_nil ?_)
      (refine Mix.wpMix_pure (by rfl) ?_; go_big_quiet_step (fail); refine wpQuiet_nil ?_)
      (refine Mix.wpMix_pure (by rfl) ?_; go_big_quiet_step (fail); refine wpQuiet_nil ?_)
      (refine Mix.wpMix_pure (by rfl) ?_; go_big_quiet_step (fail); refine wpQuiet_nil ?_)
      repeat (first | (refine Mix.wpMix_read (by rfl) ?_; go_big_quiet_step (fail); refine wpQuiet_nil ?_) | (refine Mix.wpMix_pure (by rfl) ?_; go_big_quiet_step (fail); refine wpQuiet_nil ?_))
      have d0 := bk.cell 0; have f0 := bk.frozen 0
      simp at d0
      have d1 := bk.cell 1; have f1 := bk.frozen 1
      simp at d1
      have d2 := bk.cell 2; have f2 := bk.frozen 2
      simp at d2
      refine Mix.wpMix_tail (by rfl) (fun K hK => ?_)
      go_wp2_with fail
      refine hK _ _ ?_
      clear hK K
      repeat (first | (refine Mix.wpMix_read (by rfl) ?_; go_big_quiet_step (fail); refine wpQuiet_nil ?_) | (refine Mix.wpMix_pure (by rfl) ?_; go_big_quiet_step (fail); refine wpQuiet_nil ?_))
      (refine Mix.wpMix_nil ?_; try simp only [Exit.then])
      go_wp2_with fail
      go_meet
      have bk2 := (((bk.set_ 0 (.int .i64 RR.1.1)).set_ 1 (.slice A11 n12 c13)).set_ 2 (.slice B14 m15 d16))
      refine ⟨u1.heap.size, A11, n12, c13, B14, m15, d16, rfl, rfl, rfl, rfl, (by have := bk2.cell 0; first | exact this | (simp; done) | simpa using this), (by have := bk2.cell 1; first | exact this | (simp; done) | simpa using this), (by have := bk2.cell 2; first | exact this | (simp; done) | simpa using this), ?_, l19, ?_, ?_⟩
      · first | exact (q18.alloc _).wider (by first | omega | exact Nat.le_refl _ | (simp; done) | (simp; omega)) (by first | omega | exact Nat.le_refl _ | (simp; done) | (simp; omega)) | exact (((q18.set_far (.inl (by first | omega | exact Nat.le_refl _ | (simp; done) | (simp; omega))) _).set_far (.inl (by first | omega | exact Nat.le_refl _ | (simp; done) | (simp; omega))) _).set_far (.inl (by first | omega | exact Nat.le_refl _ | (simp; done) | (simp; omega))) _).wider (by first | omega | exact Nat.le_refl _ | (simp; done) | (simp; omega)) (by first | omega | exact Nat.le_refl _ | (simp; done) | (simp; omega))
      · exact (by first | omega | exact Nat.le_refl _ | (simp; done) | (simp; omega))
      · first | exact (by have hzz := (e0).size; repeat' (first | (with_reducible exact e0) | (with_reducible refine Below.alloc ?_ ?_ _) | (with_reducible refine Below.setCell ?_ ?_ _) | (with_reducible refine below_drew ?_) | omega | (simp; done) | (simp; omega))) | exact (by have hzz := (e0p).size; repeat' (first | (with_reducible exact e0p) | (with_reducible refine Below.alloc ?_ ?_ _) | (with_reducible refine Below.setCell ?_ ?_ _) | (with_reducible refine below_drew ?_) | omega | (simp; done) | (simp; omega)))
    refine Mix.wpMix_chg (by rfl) (fun K hK => ?_)
    go_wp2_with fail
    refine (toConfig_c _ _ _ _ _ _ _ _ _ _ (by exact ((P1.out.rd).below e0)) (by omega) (by omega)).mono ?_
    rintro e u3 ⟨g030, g131, rfl, q32, hb⟩
    try simp only [World.size_alloc] at q32
    have e_q26 := below_chain e_q26 e_q26.size hb
    have e0 := below_chain e0 e0.size hb
    have e_q32 : Below u3.heap.size u3 u3 := below_size
    have zu3 : u1.heap.size ≤ u3.heap.size := by first | exact hb.size | exact Nat.le_trans (Nat.le_of_eq (World.size_alloc ..).symm) hb.size
    clear hb
    go_wp2_with fail
    refine hK _ _ ⟨⟨_, e0⟩, rfl⟩ ?_
    clear hK K
    refine Mix.wpMix_nil ?_
    refine Mix.wpF_0 ?_
    (refine Mix.wpMix_pure (by rfl) ?_; go_big_quiet_step (fail); refine wpQuiet_nil ?_)
    refine Mix.wpMix_nil ?_
    refine Mix.wpF_1 ?_ ?_
    · simp only [List.cons_append, List.nil_append]
      have e0p := e0
      refine Mix.wpMix_chg (by rfl) (fun K hK => ?_)
      go_wp2_with fail
      refine hK _ _ ⟨⟨_, e0.alloc e0.size _⟩, rfl⟩ ?_
      clear hK K
      have e_q26 := e_q26.alloc e_q26.size (.cells #[.int .i64 0, .slice none 0 0, .slice none 0 0] 30)
      have e_q32 := e_q32.alloc e_q32.size (.cells #[.int .i64 0, .slice none 0 0, .slice none 0 0] 30)
      have bk : Blk (u3.alloc (.cells #[.int .i64 0, .slice none 0 0, .slice none 0 0] 30)) u3.heap.size 30 #[.int .i64 0, .slice none 0 0, .slice none 0 0] := Blk.new _ _ _
      have e0 := e0.alloc e0.size (.cells #[.int .i64 0, .slice none 0 0, .slice none 0 0] 30)
      refine Mix.wpMix_chg (by rfl) (fun K hK => ?_)
      go_wp2_with fail
      refine (sRunByRewrites_c _ _ _ _ _ _ _ _ _ _ _ _ _ _ _ _ _ (by exact (q26.below e_q26).rd) (by exact (q32.below e_q32).rd) (by omega) (by omega) (by omega) HRR.out).mono ?_
      rintro e ua55 ⟨A11, n12, c13, B14, m15, d16, rfl, q18, l19, hb⟩
      have e_q26 := below_chain e_q26 e_q26.size hb
      have e_q32 := below_chain e_q32 e_q32.size hb
      have e0 := below_chain e0 e0.size hb
      have bk := bk.keep hb
      have e_q18 : Below ua55.heap.size ua55 ua55 := below_size
      have zua55 : u3.heap.size + 1 ≤ ua55.heap.size := by first | exact hb.size | exact Nat.le_trans (Nat.le_of_eq (World.size_alloc ..).symm) hb.size
      have q18 : WrS ua55 (u3.heap.size + 1) ua55.heap.size ([sgI A11 n12 (RR.1.2).1] ++ [sgI B14 m15 (RR.1.2).2]) := by first | exact q18.wider (Nat.le_refl _) (Nat.le_refl _) | exact q18.wider (Nat.le_of_eq (World.size_alloc ..).symm) (Nat.le_refl _)
      clear hb
      go_wp2_with fail
      refine hK _ _ ⟨⟨_, e0⟩, rfl⟩ ?_
      clear hK K
      (refine Mix.wpMix_pure (by rfl) ?_; go_big_quiet_step (fail); refine wpQuiet_nil ?_)
      (refine Mix.wpMix_pure (by rfl) ?_; go_big_quiet_step (fail); refine wpQuiet_nil ?_)
      (refine Mix.wpMix_pure (by rfl) ?_; go_big_quiet_step (fail); refine wpQuiet_nil ?_)
      (refine Mix.wpMix_pure (by rfl) ?_; go_big_quiet_step (fail); refine wpQuiet_nil ?_)
      (refine Mix.wpMix_pure (by rfl) ?_; go_big_quiet_step (fail); refine wpQuiet_nil ?_)
      repeat (first | (refine Mix.wpMix_read (by rfl) ?_; go_big_quiet_step (fail); refine wpQuiet_nil ?_) | (refine Mix.wpMix_pure (by rfl) ?_; go_big_quiet_step (fail); refine wpQuiet_nil ?_))
      have d0 := bk.cell 0; have f0 := bk.frozen 0
      simp at d0
      have d1 := bk.cell 1; have f1 := bk.frozen 1
      simp at d1
      have d2 := bk.cell 2; have f2 := bk.frozen 2
      simp at d2
      refine Mix.wpMix_tail (by rfl) (fun K hK => ?_)
      go_wp2_with fail
      refine hK _ _ ?_
      clear hK K
      repeat (first | (refine Mix.wpMix_read (by rfl) ?_; go_big_quiet_step (fail); refine wpQuiet_nil ?_) | (refine Mix.wpMix_pure (by rfl) ?_; go_big_quiet_step (fail); refine wpQuiet_nil ?_))
      (refine Mix.wpMix_nil ?_; try simp only [Exit.then])
      go_wp2_with fail
      go_meet
      have bk2 := (((bk.set_ 0 (.int .i64 RR.1.1)).set_ 1 (.slice A11 n12 c13)).set_ 2 (.slice B14 m15 d16))
      refine ⟨u3.heap.size, A11, n12, c13, B14, m15, d16, rfl, rfl, rfl, rfl, (by have := bk2.cell 0; first | exact this | (simp; done) | simpa using this), (by have := bk2.cell 1; first | exact this | (simp; done) | simpa using this), (by have := bk2.cell 2; first | exact this | (simp; done) | simpa using this), ?_, l19, ?_, ?_⟩
      · first | exact (q18.alloc _).wider (by first | omega | exact Nat.le_refl _ | (simp; done) | (simp; omega)) (by first | omega | exact Nat.le_refl _ | (simp; done) | (simp; omega)) | exact (((q18.set_far (.inl (by first | omega | exact Nat.le_refl _ | (simp; done) | (simp; omega))) _).set_far (.inl (by first | omega | exact Nat.le_refl _ | (simp; done) | (simp; omega))) _).set_far (.inl (by first | omega | exact Nat.le_refl _ | (simp; done) | (simp; omega))) _).wider (by first | omega | exact Nat.le_refl _ | (simp; done) | (simp; omega)) (by first | omega | exact Nat.le_refl _ | (simp; done) | (simp; omega))
      · exact (by first | omega | exact Nat.le_refl _ | (simp; done) | (simp; omega))
      · first | exact (by have hzz := (e0).size; repeat' (first | (with_reducible exact e0) | (with_reducible refine Below.alloc ?_ ?_ _) | (with_reducible refine Below.setCell ?_ ?_ _) | (with_reducible refine below_drew ?_) | omega | (simp; done) | (simp; omega))) | exact (by have hzz := (e0p).size; repeat' (first | (with_reducible exact e0p) | (with_reducible refine Below.alloc ?_ ?_ _) | (with_reducible refine Below.setCell ?_ ?_ _) | (with_reducible refine below_drew ?_) | omega | (simp; done) | (simp; omega)))
    refine Mix.wpMix_chg (by rfl) (fun K hK => ?_)
    go_wp2_with fail
    refine (sRunByRewrites_c _ _ _ _ _ _ _ _ _ _ _ _ _ _ _ _ _ (by exact (q26.below e_q26).rd) (by exact (q32.below e_q32).rd) (by omega) (by omega) (by omega) HRR.out).mono ?_
    rintro e u5 ⟨A11, n12, c13, B14, m15, d16, rfl, q18, l19, hb⟩
    have e_q26 := below_chain e_q26 e_q26.size hb
    have e_q32 := below_chain e_q32 e_q32.size hb
    have e0 := below_chain e0 e0.size hb
    have e_q18 : Below u5.heap.size u5 u5 := below_size
    have zu5 : u3.heap.size ≤ u5.heap.size := by first | exact hb.size | exact Nat.le_trans (Nat.le_of_eq (World.size_alloc ..).symm) hb.size
    have q18 : WrS u5 (u3.heap.size) u5.heap.size ([sgI A11 n12 (RR.1.2).1] ++ [sgI B14 m15 (RR.1.2).2]) := by first | exact q18.wider (Nat.le_refl _) (Nat.le_refl _) | exact q18.wider (Nat.le_of_eq (World.size_alloc ..).symm) (Nat.le_refl _)
    clear hb
    go_wp2_with fail
    refine hK _ _ ⟨⟨_, e0⟩, rfl⟩ ?_
    clear hK K
    refine Mix.wpMix_nil ?_
    refine Mix.wpF_0 ?_
    (refine Mix.wpMix_pure (by rfl) ?_; go_big_quiet_step (fail); refine wpQuiet_nil ?_)
    refine Mix.wpMix_nil ?_
    refine Mix.wpF_0 ?_
    (refine Mix.wpMix_pure (by rfl) ?_; go_big_quiet_step (fail); refine wpQuiet_nil ?_)
    refine Mix.wpMix_nil ?_
    refine Mix.wpF_0 ?_
    (refine Mix.wpMix_pure (by rfl) ?_; go_big_quiet_step (fail); refine wpQuiet_nil ?_)
    refine Mix.wpMix_nil ?_
    refine Mix.wpF_0 ?_
    (refine Mix.wpMix_pure (by rfl) ?_; go_big_quiet_step (fail); refine wpQuiet_nil ?_)
    refine Mix.wpMix_nil ?_
    refine Mix.wpF_0 ?_
    (refine Mix.wpMix_pure (by rfl) ?_; go_big_quiet_step (fail); refine wpQuiet_nil ?_)
    refine Mix.wpMix_nil ?_
    refine Mix.wpF_nil ?_
    have e0p := e0
    refine Mix.wpMix_chg (by rfl) (fun K hK => ?_)
    go_wp2_with fail
    refine hK _ _ ⟨⟨_, e0.alloc e0.size _⟩, rfl⟩ ?_
    clear hK K
    have e_q26 := e_q26.alloc e_q26.size (.cells #[.int .i64 0, .slice none 0 0, .slice none 0 0] 30)
    have e_q32 := e_q32.alloc e_q32.size (.cells #[.int .i64 0, .slice none 0 0, .slice none 0 0] 30)
    have e_q18 := e_q18.alloc e_q18.size (.cells #[.int .i64 0, .slice none 0 0, .slice none 0 0] 30)
    have bk : Blk (u5.alloc (.cells #[.int .i64 0, .slice none 0 0, .slice none 0 0] 30)) u5.heap.size 30 #[.int .i64 0, .slice none 0 0, .slice none 0 0] := Blk.new _ _ _
    have e0 := e0.alloc e0.size (.cells #[.int .i64 0, .slice none 0 0, .slice none 0 0] 30)
    repeat (first | (refine Mix.wpMix_read (by rfl) ?_; go_big_quiet_step (fail); refine wpQuiet_nil ?_) | (refine Mix.wpMix_pure (by rfl) ?_; go_big_quiet_step (fail); refine wpQuiet_nil ?_))
    have d0 := bk.cell 0; have f0 := bk.frozen 0
    simp at d0
    have d1 := bk.cell 1; have f1 := bk.frozen 1
    simp at d1
    have d2 := bk.cell 2; have f2 := bk.frozen 2
    simp at d2
    refine Mix.wpMix_tail (by rfl) (fun K hK => ?_)
    go_wp2_with fail
    refine hK _ _ ?_
    clear hK K
    repeat (first | (refine Mix.wpMix_read (by rfl) ?_; go_big_quiet_step (fail); refine wpQuiet_nil ?_) | (refine Mix.wpMix_pure (by rfl) ?_; go_big_quiet_step (fail); refine wpQuiet_nil ?_))
    (refine Mix.wpMix_nil ?_; try simp only [Exit.then])
    go_wp2_with fail
    go_meet
    have bk2 := (((bk.set_ 0 (.int .i64 RR.1.1)).set_ 1 (.slice A11 n12 c13)).set_ 2 (.slice B14 m15 d16))
    refine ⟨u5.heap.size, A11, n12, c13, B14, m15, d16, rfl, rfl, rfl, rfl, (by have := bk2.cell 0; first | exact this | (simp; done) | simpa using this), (by have := bk2.cell 1; first | exact this | (simp; done) | simpa using this), (by have := bk2.cell 2; first | exact this | (simp; done) | simpa using this), ?_, l19, ?_, ?_⟩
    · first | exact (q18.alloc _).wider (by first | omega | exact Nat.le_refl _ | (simp; done) | (simp; omega)) (by first | omega | exact Nat.le_refl _ | (simp; done) | (simp; omega)) | exact (((q18.set_far (.inl (by first | omega | exact Nat.le_refl _ | (simp; done) | (simp; omega))) _).set_far (.inl (by first | omega | exact Nat.le_refl _ | (simp; done) | (simp; omega))) _).set_far (.inl (by first | omega | exact Nat.le_refl _ | (simp; done) | (simp; omega))) _).wider (by first | omega | exact Nat.le_refl _ | (simp; done) | (simp; omega)) (by first | omega | exact Nat.le_refl _ | (simp; done) | (simp; omega))
    · exact (by first | omega | exact Nat.le_refl _ | (simp; done) | (simp; omega))
    · first | exact (by have hzz := (e0).size; repeat' (first | (with_reducible exact e0) | (with_reducible refine Below.alloc ?_ ?_ _) | (with_reducible refine Below.setCell ?_ ?_ _) | (with_reducible refine below_drew ?_) | omega | (simp; done) | (simp; omega))) | exact (by have hzz := (e0p).size; repeat' (first | (with_reducible exact e0p) | (with_reducible refine Below.alloc ?_ ?_ _) | (with_reducible refine Below.setCell ?_ ?_ _) | (with_reducible refine below_drew ?_) | omega | (simp; done) | (simp; omega)))
  case rest =>
    obtain ⟨g17, A11, n12, c13, B14, m15, d16, rfl, rfl, rfl, rfl, nc0, nc1, nc2, q18, l19, hgg17, hb'⟩ := hcut
    obtain ⟨w3, rfl⟩ : ∃ w3 : World, w3 = wc := ⟨_, rfl⟩
    have z3 := hb'.size
    have hlg17 : g17 < w3.heap.size := World.block_lt_of_cell? w3 _ nc0
    have c3_a0_0 : w3.cell? ⟨w.heap.size, 0, none⟩ = some (.int .i64 sy0) := keepc hb' c2_a0_0
    clear c2_a0_0 ac2_a0_0
    have c3_a0_1 : w3.cell? ⟨w.heap.size, 1, none⟩ = some (.int .i64 st0) := keepc hb' c2_a0_1
    clear c2_a0_1 ac2_a0_1
    have c3_a0_2 : w3.cell? ⟨w.heap.size, 2, none⟩ = some (.slice A0 n0 c0) := keepc hb' c2_a0_2
    clear c2_a0_2 ac2_a0_2
    have c3_a1_0 : w3.cell? ⟨(w.heap.size + 1), 0, none⟩ = some (.int .i64 st1) := keepc hb' c2_a1_0
    clear c2_a1_0 ac2_a1_0
    have c3_a1_1 : w3.cell? ⟨(w.heap.size + 1), 1, none⟩ = some (.slice A1 n1 c1) := keepc hb' c2_a1_1
    clear c2_a1_1 ac2_a1_1
    have c3_a1_2 : w3.cell? ⟨(w.heap.size + 1), 2, none⟩ = some (.slice B1 m1 d1) := keepc hb' c2_a1_2
    clear c2_a1_2 ac2_a1_2
    have c3_o33_0 := nc0; clear nc0
    have c3_o33_1 := nc1; clear nc1
    have c3_o33_2 := nc2; clear nc2
    have ac3_a0_0 := fun o => keepa o c3_a0_0
    have ac3_a0_1 := fun o => keepa o c3_a0_1
    have ac3_a0_2 := fun o => keepa o c3_a0_2
    have ac3_a1_0 := fun o => keepa o c3_a1_0
    have ac3_a1_1 := fun o => keepa o c3_a1_1
    have ac3_a1_2 := fun o => keepa o c3_a1_2
    have ac3_o33_0 := fun o => keepa o c3_o33_0
    have ac3_o33_1 := fun o => keepa o c3_o33_1
    have ac3_o33_2 := fun o => keepa o c3_o33_2
    have rP0 := P0.out.below hb'; clear P0; have P0 := Lib.hid rP0; clear rP0
    have rP1 := P1.out.below hb'; clear P1; have P1 := Lib.hid rP1; clear rP1
    have rB := below_chain B.out (by omega) hb'; clear B; have B := Lib.hid rB; clear rB hb'
    have Fo33 := Lib.hid q18; clear q18
    go_wp2_with fail
    refine (toMachine_c _ _ _ _ _ _ _ (by exact (P0.out.rd)) (by omega)).mono ?_
    rintro e w4 ⟨g034, rfl, q4, hb⟩
    have hb' : Below w3.heap.size w3 w4 := (by first | (with_reducible exact hb) | (with_reducible exact up1 hb) | (with_reducible exact up2 hb) | (with_reducible exact up3 hb) | (with_reducible exact up4 hb) | (with_reducible exact below_of_drew hb) | (with_reducible exact below_of_drew (up1 hb)))
    have z4 := hb'.size
    have c4_a0_0 : w4.cell? ⟨w.heap.size, 0, none⟩ = some (.int .i64 sy0) := keepc hb' c3_a0_0
    clear c3_a0_0 ac3_a0_0
    have c4_a0_1 : w4.cell? ⟨w.heap.size, 1, none⟩ = some (.int .i64 st0) := keepc hb' c3_a0_1
    clear c3_a0_1 ac3_a0_1
    have c4_a0_2 : w4.cell? ⟨w.heap.size, 2, none⟩ = some (.slice A0 n0 c0) := keepc hb' c3_a0_2
    clear c3_a0_2 ac3_a0_2
    have c4_a1_0 : w4.cell? ⟨(w.heap.size + 1), 0, none⟩ = some (.int .i64 st1) := keepc hb' c3_a1_0
    clear c3_a1_0 ac3_a1_0
    have c4_a1_1 : w4.cell? ⟨(w.heap.size + 1), 1, none⟩ = some (.slice A1 n1 c1) := keepc hb' c3_a1_1
    clear c3_a1_1 ac3_a1_1
    have c4_a1_2 : w4.cell? ⟨(w.heap.size + 1), 2, none⟩ = some (.slice B1 m1 d1) := keepc hb' c3_a1_2
    clear c3_a1_2 ac3_a1_2
    have c4_o33_0 : w4.cell? ⟨g17, 0, none⟩ = some (.int .i64 RR.1.1) := keepc hb' c3_o33_0
    clear c3_o33_0 ac3_o33_0
    have c4_o33_1 : w4.cell? ⟨g17, 1, none⟩ = some (.slice A11 n12 c13) := keepc hb' c3_o33_1
    clear c3_o33_1 ac3_o33_1
    have c4_o33_2 : w4.cell? ⟨g17, 2, none⟩ = some (.slice B14 m15 d16) := keepc hb' c3_o33_2
    clear c3_o33_2 ac3_o33_2
    have ac4_a0_0 := fun o => keepa o c4_a0_0
    have ac4_a0_1 := fun o => keepa o c4_a0_1
    have ac4_a0_2 := fun o => keepa o c4_a0_2
    have ac4_a1_0 := fun o => keepa o c4_a1_0
    have ac4_a1_1 := fun o => keepa o c4_a1_1
    have ac4_a1_2 := fun o => keepa o c4_a1_2
    have ac4_o33_0 := fun o => keepa o c4_o33_0
    have ac4_o33_1 := fun o => keepa o c4_o33_1
    have ac4_o33_2 := fun o => keepa o c4_o33_2
    have rP0 := P0.out.below hb'; clear P0; have P0 := Lib.hid rP0; clear rP0
    have rP1 := P1.out.below hb'; clear P1; have P1 := Lib.hid rP1; clear rP1
    have rFo33 := Fo33.out.below hb'; clear Fo33; have Fo33 := Lib.hid rFo33; clear rFo33
    have rB := below_chain B.out (by omega) hb'; clear B; have B := Lib.hid rB; clear rB
    have Fo35 := Lib.hid q4; clear q4
    clear hb hb'
    go_wp2_with fail
    refine (toConfig_c _ _ _ _ _ _ _ _ _ _ (by exact ((P1.out.rd).alloc _)) (by omega) (by omega)).mono ?_
    rintro e w5 ⟨g036, g137, rfl, q5, hb⟩
    try simp only [World.size_alloc] at q5
    have hb' : Below w4.heap.size w4 w5 := (by first | (with_reducible exact hb) | (with_reducible exact up1 hb) | (with_reducible exact up2 hb) | (with_reducible exact up3 hb) | (with_reducible exact up4 hb) | (with_reducible exact below_of_drew hb) | (with_reducible exact below_of_drew (up1 hb)))
    have z5 := hb'.size
    have c5_a0_0 : w5.cell? ⟨w.heap.size, 0, none⟩ = some (.int .i64 sy0) := keepc hb' c4_a0_0
    clear c4_a0_0 ac4_a0_0
    have c5_a0_1 : w5.cell? ⟨w.heap.size, 1, none⟩ = some (.int .i64 st0) := keepc hb' c4_a0_1
    clear c4_a0_1 ac4_a0_1
    have c5_a0_2 : w5.cell? ⟨w.heap.size, 2, none⟩ = some (.slice A0 n0 c0) := keepc hb' c4_a0_2
    clear c4_a0_2 ac4_a0_2
    have c5_a1_0 : w5.cell? ⟨(w.heap.size + 1), 0, none⟩ = some (.int .i64 st1) := keepc hb' c4_a1_0
    clear c4_a1_0 ac4_a1_0
    have c5_a1_1 : w5.cell? ⟨(w.heap.size + 1), 1, none⟩ = some (.slice A1 n1 c1) := keepc hb' c4_a1_1
    clear c4_a1_1 ac4_a1_1
    have c5_a1_2 : w5.cell? ⟨(w.heap.size + 1), 2, none⟩ = some (.slice B1 m1 d1) := keepc hb' c4_a1_2
    clear c4_a1_2 ac4_a1_2
    have c5_o33_0 : w5.cell? ⟨g17, 0, none⟩ = some (.int .i64 RR.1.1) := keepc hb' c4_o33_0
    clear c4_o33_0 ac4_o33_0
    have c5_o33_1 : w5.cell? ⟨g17, 1, none⟩ = some (.slice A11 n12 c13) := keepc hb' c4_o33_1
    clear c4_o33_1 ac4_o33_1
    have c5_o33_2 : w5.cell? ⟨g17, 2, none⟩ = some (.slice B14 m15 d16) := keepc hb' c4_o33_2
    clear c4_o33_2 ac4_o33_2
    have c5_o35_0 : w5.cell? ⟨w4.heap.size, 0, none⟩ = some (.int .i64 sy0) := keepc hb (by first | (simp; done) | (rw [World.cell?_alloc_past _ _ _ (by simp <;> omega)]; simp; done) | (rw [World.cell?_alloc_past _ _ _ (by simp <;> omega), World.cell?_alloc_past _ _ _ (by simp <;> omega)]; simp; done) | (rw [World.cell?_alloc_past _ _ _ (by simp <;> omega), World.cell?_alloc_past _ _ _ (by simp <;> omega), World.cell?_alloc_past _ _ _ (by simp <;> omega)]; simp; done) | (rw [World.cell?_alloc_at _ _ _ _ (by simp)]; simp; done) | (rw [World.cell?_alloc_past _ _ _ (by simp <;> omega), World.cell?_alloc_at _ _ _ _ (by simp)]; simp; done) | (rw [World.cell?_alloc_past _ _ _ (by simp <;> omega), World.cell?_alloc_past _ _ _ (by simp <;> omega), World.cell?_alloc_at _ _ _ _ (by simp)]; simp; done) | (rw [World.cell?_alloc_past _ _ _ (by simp <;> omega), World.cell?_alloc_past _ _ _ (by simp <;> omega), World.cell?_alloc_past _ _ _ (by simp <;> omega), World.cell?_alloc_at _ _ _ _ (by simp)]; simp; done))
    have hl_c5_o35_0 : w4.heap.size < w5.heap.size := World.block_lt_of_cell? w5 _ c5_o35_0
    have c5_o35_1 : w5.cell? ⟨w4.heap.size, 1, none⟩ = some (.int .i64 st0) := keepc hb (by first | (simp; done) | (rw [World.cell?_alloc_past _ _ _ (by simp <;> omega)]; simp; done) | (rw [World.cell?_alloc_past _ _ _ (by simp <;> omega), World.cell?_alloc_past _ _ _ (by simp <;> omega)]; simp; done) | (rw [World.cell?_alloc_past _ _ _ (by simp <;> omega), World.cell?_alloc_past _ _ _ (by simp <;> omega), World.cell?_alloc_past _ _ _ (by simp <;> omega)]; simp; done) | (rw [World.cell?_alloc_at _ _ _ _ (by simp)]; simp; done) | (rw [World.cell?_alloc_past _ _ _ (by simp <;> omega), World.cell?_alloc_at _ _ _ _ (by simp)]; simp; done) | (rw [World.cell?_alloc_past _ _ _ (by simp <;> omega), World.cell?_alloc_past _ _ _ (by simp <;> omega), World.cell?_alloc_at _ _ _ _ (by simp)]; simp; done) | (rw [World.cell?_alloc_past _ _ _ (by simp <;> omega), World.cell?_alloc_past _ _ _ (by simp <;> omega), World.cell?_alloc_past _ _ _ (by simp <;> omega), World.cell?_alloc_at _ _ _ _ (by simp)]; simp; done))
    have c5_o35_2 : w5.cell? ⟨w4.heap.size, 2, none⟩ = some (.slice (some ⟨g034, 0, none⟩) n0 n0) := keepc hb (by first | (simp; done) | (rw [World.cell?_alloc_past _ _ _ (by simp <;> omega)]; simp; done) | (rw [World.cell?_alloc_past _ _ _ (by simp <;> omega), World.cell?_alloc_past _ _ _ (by simp <;> omega)]; simp; done) | (rw [World.cell?_alloc_past _ _ _ (by simp <;> omega), World.cell?_alloc_past _ _ _ (by simp <;> omega), World.cell?_alloc_past _ _ _ (by simp <;> omega)]; simp; done) | (rw [World.cell?_alloc_at _ _ _ _ (by simp)]; simp; done) | (rw [World.cell?_alloc_past _ _ _ (by simp <;> omega), World.cell?_alloc_at _ _ _ _ (by simp)]; simp; done) | (rw [World.cell?_alloc_past _ _ _ (by simp <;> omega), World.cell?_alloc_past _ _ _ (by simp <;> omega), World.cell?_alloc_at _ _ _ _ (by simp)]; simp; done) | (rw [World.cell?_alloc_past _ _ _ (by simp <;> omega), World.cell?_alloc_past _ _ _ (by simp <;> omega), World.cell?_alloc_past _ _ _ (by simp <;> omega), World.cell?_alloc_at _ _ _ _ (by simp)]; simp; done))
    have ac5_a0_0 := fun o => keepa o c5_a0_0
    have ac5_a0_1 := fun o => keepa o c5_a0_1
    have ac5_a0_2 := fun o => keepa o c5_a0_2
    have ac5_a1_0 := fun o => keepa o c5_a1_0
    have ac5_a1_1 := fun o => keepa o c5_a1_1
    have ac5_a1_2 := fun o => keepa o c5_a1_2
    have ac5_o33_0 := fun o => keepa o c5_o33_0
    have ac5_o33_1 := fun o => keepa o c5_o33_1
    have ac5_o33_2 := fun o => keepa o c5_o33_2
    have ac5_o35_0 := fun o => keepa o c5_o35_0
    have ac5_o35_1 := fun o => keepa o c5_o35_1
    have ac5_o35_2 := fun o => keepa o c5_o35_2
    have rP0 := P0.out.below hb'; clear P0; have P0 := Lib.hid rP0; clear rP0
    have rP1 := P1.out.below hb'; clear P1; have P1 := Lib.hid rP1; clear rP1
    have rFo33 := Fo33.out.below hb'; clear Fo33; have Fo33 := Lib.hid rFo33; clear rFo33
    have rFo35 := Fo35.out.below hb'; clear Fo35; have Fo35 := Lib.hid rFo35; clear rFo35
    have rB := below_chain B.out (by omega) hb'; clear B; have B := Lib.hid rB; clear rB
    have Fo38 := Lib.hid q5; clear q5
    clear hb hb'
    go_wp2_with fail
    refine (iRunByRewrites_c _ _ _ _ _ _ _ _ _ _ _ _ _ _ _ _ _ (by exact ((Fo35.out.rd).alloc _)) (by exact ((Fo38.out.rd).alloc _)) (by omega) (by omega) (by omega) HRR.out).mono ?_
    rintro e w6 ⟨A39, n40, c41, B42, m43, d44, rfl, q45, l46, hb⟩
    try simp only [World.size_alloc] at q45
    have hb' : Below w5.heap.size w5 w6 := (by first | (with_reducible exact hb) | (with_reducible exact up1 hb) | (with_reducible exact up2 hb) | (with_reducible exact up3 hb) | (with_reducible exact up4 hb) | (with_reducible exact below_of_drew hb) | (with_reducible exact below_of_drew (up1 hb)))
    have z6 := hb'.size
    have c6_a0_0 : w6.cell? ⟨w.heap.size, 0, none⟩ = some (.int .i64 sy0) := keepc hb' c5_a0_0
    clear c5_a0_0 ac5_a0_0
    have c6_a0_1 : w6.cell? ⟨w.heap.size, 1, none⟩ = some (.int .i64 st0) := keepc hb' c5_a0_1
    clear c5_a0_1 ac5_a0_1
    have c6_a0_2 : w6.cell? ⟨w.heap.size, 2, none⟩ = some (.slice A0 n0 c0) := keepc hb' c5_a0_2
    clear c5_a0_2 ac5_a0_2
    have c6_a1_0 : w6.cell? ⟨(w.heap.size + 1), 0, none⟩ = some (.int .i64 st1) := keepc hb' c5_a1_0
    clear c5_a1_0 ac5_a1_0
    have c6_a1_1 : w6.cell? ⟨(w.heap.size + 1), 1, none⟩ = some (.slice A1 n1 c1) := keepc hb' c5_a1_1
    clear c5_a1_1 ac5_a1_1
    have c6_a1_2 : w6.cell? ⟨(w.heap.size + 1), 2, none⟩ = some (.slice B1 m1 d1) := keepc hb' c5_a1_2
    clear c5_a1_2 ac5_a1_2
    have c6_o33_0 : w6.cell? ⟨g17, 0, none⟩ = some (.int .i64 RR.1.1) := keepc hb' c5_o33_0
    clear c5_o33_0 ac5_o33_0
    have c6_o33_1 : w6.cell? ⟨g17, 1, none⟩ = some (.slice A11 n12 c13) := keepc hb' c5_o33_1
    clear c5_o33_1 ac5_o33_1
    have c6_o33_2 : w6.cell? ⟨g17, 2, none⟩ = some (.slice B14 m15 d16) := keepc hb' c5_o33_2
    clear c5_o33_2 ac5_o33_2
    have c6_o35_0 : w6.cell? ⟨w4.heap.size, 0, none⟩ = some (.int .i64 sy0) := keepc hb' c5_o35_0
    clear c5_o35_0 ac5_o35_0
    have c6_o35_1 : w6.cell? ⟨w4.heap.size, 1, none⟩ = some (.int .i64 st0) := keepc hb' c5_o35_1
    clear c5_o35_1 ac5_o35_1
    have c6_o35_2 : w6.cell? ⟨w4.heap.size, 2, none⟩ = some (.slice (some ⟨g034, 0, none⟩) n0 n0) := keepc hb' c5_o35_2
    clear c5_o35_2 ac5_o35_2
    have c6_o38_0 : w6.cell? ⟨w5.heap.size, 0, none⟩ = some (.int .i64 st1) := keepc hb (by first | (simp; done) | (rw [World.cell?_alloc_past _ _ _ (by simp <;> omega)]; simp; done) | (rw [World.cell?_alloc_past _ _ _ (by simp <;> omega), World.cell?_alloc_past _ _ _ (by simp <;> omega)]; simp; done) | (rw [World.cell?_alloc_past _ _ _ (by simp <;> omega), World.cell?_alloc_past _ _ _ (by simp <;> omega), World.cell?_alloc_past _ _ _ (by simp <;> omega)]; simp; done) | (rw [World.cell?_alloc_at _ _ _ _ (by simp)]; simp; done) | (rw [World.cell?_alloc_past _ _ _ (by simp <;> omega), World.cell?_alloc_at _ _ _ _ (by simp)]; simp; done) | (rw [World.cell?_alloc_past _ _ _ (by simp <;> omega), World.cell?_alloc_past _ _ _ (by simp <;> omega), World.cell?_alloc_at _ _ _ _ (by simp)]; simp; done) | (rw [World.cell?_alloc_past _ _ _ (by simp <;> omega), World.cell?_alloc_past _ _ _ (by simp <;> omega), World.cell?_alloc_past _ _ _ (by simp <;> omega), World.cell?_alloc_at _ _ _ _ (by simp)]; simp; done))
    have hl_c6_o38_0 : w5.heap.size < w6.heap.size := World.block_lt_of_cell? w6 _ c6_o38_0
    have c6_o38_1 : w6.cell? ⟨w5.heap.size, 1, none⟩ = some (.slice (some ⟨g036, 0, none⟩) n1 n1) := keepc hb (by first | (simp; done) | (rw [World.cell?_alloc_past _ _ _ (by simp <;> omega)]; simp; done) | (rw [World.cell?_alloc_past _ _ _ (by simp <;> omega), World.cell?_alloc_past _ _ _ (by simp <;> omega)]; simp; done) | (rw [World.cell?_alloc_past _ _ _ (by simp <;> omega), World.cell?_alloc_past _ _ _ (by simp <;> omega), World.cell?_alloc_past _ _ _ (by simp <;> omega)]; simp; done) | (rw [World.cell?_alloc_at _ _ _ _ (by simp)]; simp; done) | (rw [World.cell?_alloc_past _ _ _ (by simp <;> omega), World.cell?_alloc_at _ _ _ _ (by simp)]; simp; done) | (rw [World.cell?_alloc_past _ _ _ (by simp <;> omega), World.cell?_alloc_past _ _ _ (by simp <;> omega), World.cell?_alloc_at _ _ _ _ (by simp)]; simp; done) | (rw [World.cell?_alloc_past _ _ _ (by simp <;> omega), World.cell?_alloc_past _ _ _ (by simp <;> omega), World.cell?_alloc_past _ _ _ (by simp <;> omega), World.cell?_alloc_at _ _ _ _ (by simp)]; simp; done))
    have c6_o38_2 : w6.cell? ⟨w5.heap.size, 2, none⟩ = some (.slice (some ⟨g137, 0, none⟩) m1 m1) := keepc hb (by first | (simp; done) | (rw [World.cell?_alloc_past _ _ _ (by simp <;> omega)]; simp; done) | (rw [World.cell?_alloc_past _ _ _ (by simp <;> omega), World.cell?_alloc_past _ _ _ (by simp <;> omega)]; simp; done) | (rw [World.cell?_alloc_past _ _ _ (by simp <;> omega), World.cell?_alloc_past _ _ _ (by simp <;> omega), World.cell?_alloc_past _ _ _ (by simp <;> omega)]; simp; done) | (rw [World.cell?_alloc_at _ _ _ _ (by simp)]; simp; done) | (rw [World.cell?_alloc_past _ _ _ (by simp <;> omega), World.cell?_alloc_at _ _ _ _ (by simp)]; simp; done) | (rw [World.cell?_alloc_past _ _ _ (by simp <;> omega), World.cell?_alloc_past _ _ _ (by simp <;> omega), World.cell?_alloc_at _ _ _ _ (by simp)]; simp; done) | (rw [World.cell?_alloc_past _ _ _ (by simp <;> omega), World.cell?_alloc_past _ _ _ (by simp <;> omega), World.cell?_alloc_past _ _ _ (by simp <;> omega), World.cell?_alloc_at _ _ _ _ (by simp)]; simp; done))
    have ac6_a0_0 := fun o => keepa o c6_a0_0
    have ac6_a0_1 := fun o => keepa o c6_a0_1
    have ac6_a0_2 := fun o => keepa o c6_a0_2
    have ac6_a1_0 := fun o => keepa o c6_a1_0
    have ac6_a1_1 := fun o => keepa o c6_a1_1
    have ac6_a1_2 := fun o => keepa o c6_a1_2
    have ac6_o33_0 := fun o => keepa o c6_o33_0
    have ac6_o33_1 := fun o => keepa o c6_o33_1
    have ac6_o33_2 := fun o => keepa o c6_o33_2
    have ac6_o35_0 := fun o => keepa o c6_o35_0
    have ac6_o35_1 := fun o => keepa o c6_o35_1
    have ac6_o35_2 := fun o => keepa o c6_o35_2
    have ac6_o38_0 := fun o => keepa o c6_o38_0
    have ac6_o38_1 := fun o => keepa o c6_o38_1
    have ac6_o38_2 := fun o => keepa o c6_o38_2
    have rP0 := P0.out.below hb'; clear P0; have P0 := Lib.hid rP0; clear rP0
    have rP1 := P1.out.below hb'; clear P1; have P1 := Lib.hid rP1; clear rP1
    have rFo33 := Fo33.out.below hb'; clear Fo33; have Fo33 := Lib.hid rFo33; clear rFo33
    have rFo35 := Fo35.out.below hb'; clear Fo35; have Fo35 := Lib.hid rFo35; clear rFo35
    have rFo38 := Fo38.out.below hb'; clear Fo38; have Fo38 := Lib.hid rFo38; clear rFo38
    have rB := below_chain B.out (by omega) hb'; clear B; have B := Lib.hid rB; clear rB
    have Fo47 := Lib.hid q45; clear q45
    clear hb hb'
    go_wp2_with fail
    refine (eqConfig_t _ _ _ _ _ _ _ _ _ _ _ _ _ _ _ _ (by exact ((Fo47.out.rd).alloc _)) (by exact ((Fo33.out.rd).alloc _)) (by omega) (by omega)).mono ?_
    rintro e w7 ⟨rfl, hb⟩
    have hb' : Below w6.heap.size w6 w7 := (by first | (with_reducible exact hb) | (with_reducible exact up1 hb) | (with_reducible exact up2 hb) | (with_reducible exact up3 hb) | (with_reducible exact up4 hb) | (with_reducible exact below_of_drew hb) | (with_reducible exact below_of_drew (up1 hb)))
    have z7 := hb'.size
    have c7_a0_0 : w7.cell? ⟨w.heap.size, 0, none⟩ = some (.int .i64 sy0) := keepc hb' c6_a0_0
    clear c6_a0_0 ac6_a0_0
    have c7_a0_1 : w7.cell? ⟨w.heap.size, 1, none⟩ = some (.int .i64 st0) := keepc hb' c6_a0_1
    clear c6_a0_1 ac6_a0_1
    have c7_a0_2 : w7.cell? ⟨w.heap.size, 2, none⟩ = some (.slice A0 n0 c0) := keepc hb' c6_a0_2
    clear c6_a0_2 ac6_a0_2
    have c7_a1_0 : w7.cell? ⟨(w.heap.size + 1), 0, none⟩ = some (.int .i64 st1) := keepc hb' c6_a1_0
    clear c6_a1_0 ac6_a1_0
    have c7_a1_1 : w7.cell? ⟨(w.heap.size + 1), 1, none⟩ = some (.slice A1 n1 c1) := keepc hb' c6_a1_1
    clear c6_a1_1 ac6_a1_1
    have c7_a1_2 : w7.cell? ⟨(w.heap.size + 1), 2, none⟩ = some (.slice B1 m1 d1) := keepc hb' c6_a1_2
    clear c6_a1_2 ac6_a1_2
    have c7_o33_0 : w7.cell? ⟨g17, 0, none⟩ = some (.int .i64 RR.1.1) := keepc hb' c6_o33_0
    clear c6_o33_0 ac6_o33_0
    have c7_o33_1 : w7.cell? ⟨g17, 1, none⟩ = some (.slice A11 n12 c13) := keepc hb' c6_o33_1
    clear c6_o33_1 ac6_o33_1
    have c7_o33_2 : w7.cell? ⟨g17, 2, none⟩ = some (.slice B14 m15 d16) := keepc hb' c6_o33_2
    clear c6_o33_2 ac6_o33_2
    have c7_o35_0 : w7.cell? ⟨w4.heap.size, 0, none⟩ = some (.int .i64 sy0) := keepc hb' c6_o35_0
    clear c6_o35_0 ac6_o35_0
    have c7_o35_1 : w7.cell? ⟨w4.heap.size, 1, none⟩ = some (.int .i64 st0) := keepc hb' c6_o35_1
    clear c6_o35_1 ac6_o35_1
    have c7_o35_2 : w7.cell? ⟨w4.heap.size, 2, none⟩ = some (.slice (some ⟨g034, 0, none⟩) n0 n0) := keepc hb' c6_o35_2
    clear c6_o35_2 ac6_o35_2
    have c7_o38_0 : w7.cell? ⟨w5.heap.size, 0, none⟩ = some (.int .i64 st1) := keepc hb' c6_o38_0
    clear c6_o38_0 ac6_o38_0
    have c7_o38_1 : w7.cell? ⟨w5.heap.size, 1, none⟩ = some (.slice (some ⟨g036, 0, none⟩) n1 n1) := keepc hb' c6_o38_1
    clear c6_o38_1 ac6_o38_1
    have c7_o38_2 : w7.cell? ⟨w5.heap.size, 2, none⟩ = some (.slice (some ⟨g137, 0, none⟩) m1 m1) := keepc hb' c6_o38_2
    clear c6_o38_2 ac6_o38_2
    have c7_o47_0 : w7.cell? ⟨w6.heap.size, 0, none⟩ = some (.int .i64 RR.1.1) := keepc hb (by first | (simp; done) | (rw [World.cell?_alloc_past _ _ _ (by simp <;> omega)]; simp; done) | (rw [World.cell?_alloc_past _ _ _ (by simp <;> omega), World.cell?_alloc_past _ _ _ (by simp <;> omega)]; simp; done) | (rw [World.cell?_alloc_past _ _ _ (by simp <;> omega), World.cell?_alloc_past _ _ _ (by simp <;> omega), World.cell?_alloc_past _ _ _ (by simp <;> omega)]; simp; done) | (rw [World.cell?_alloc_at _ _ _ _ (by simp)]; simp; done) | (rw [World.cell?_alloc_past _ _ _ (by simp <;> omega), World.cell?_alloc_at _ _ _ _ (by simp)]; simp; done) | (rw [World.cell?_alloc_past _ _ _ (by simp <;> omega), World.cell?_alloc_past _ _ _ (by simp <;> omega), World.cell?_alloc_at _ _ _ _ (by simp)]; simp; done) | (rw [World.cell?_alloc_past _ _ _ (by simp <;> omega), World.cell?_alloc_past _ _ _ (by simp <;> omega), World.cell?_alloc_past _ _ _ (by simp <;> omega), World.cell?_alloc_at _ _ _ _ (by simp)]; simp; done))
    have hl_c7_o47_0 : w6.heap.size < w7.heap.size := World.block_lt_of_cell? w7 _ c7_o47_0
    have c7_o47_1 : w7.cell? ⟨w6.heap.size, 1, none⟩ = some (.slice A39 n40 c41) := keepc hb (by first | (simp; done) | (rw [World.cell?_alloc_past _ _ _ (by simp <;> omega)]; simp; done) | (rw [World.cell?_alloc_past _ _ _ (by simp <;> omega), World.cell?_alloc_past _ _ _ (by simp <;> omega)]; simp; done) | (rw [World.cell?_alloc_past _ _ _ (by simp <;> omega), World.cell?_alloc_past _ _ _ (by simp <;> omega), World.cell?_alloc_past _ _ _ (by simp <;> omega)]; simp; done) | (rw [World.cell?_alloc_at _ _ _ _ (by simp)]; simp; done) | (rw [World.cell?_alloc_past _ _ _ (by simp <;> omega), World.cell?_alloc_at _ _ _ _ (by simp)]; simp; done) | (rw [World.cell?_alloc_past _ _ _ (by simp <;> omega), World.cell?_alloc_past _ _ _ (by simp <;> omega), World.cell?_alloc_at _ _ _ _ (by simp)]; simp; done) | (rw [World.cell?_alloc_past _ _ _ (by simp <;> omega), World.cell?_alloc_past _ _ _ (by simp <;> omega), World.cell?_alloc_past _ _ _ (by simp <;> omega), World.cell?_alloc_at _ _ _ _ (by simp)]; simp; done))
    have c7_o47_2 : w7.cell? ⟨w6.heap.size, 2, none⟩ = some (.slice B42 m43 d44) := keepc hb (by first | (simp; done) | (rw [World.cell?_alloc_past _ _ _ (by simp <;> omega)]; simp; done) | (rw [World.cell?_alloc_past _ _ _ (by simp <;> omega), World.cell?_alloc_past _ _ _ (by simp <;> omega)]; simp; done) | (rw [World.cell?_alloc_past _ _ _ (by simp <;> omega), World.cell?_alloc_past _ _ _ (by simp <;> omega), World.cell?_alloc_past _ _ _ (by simp <;> omega)]; simp; done) | (rw [World.cell?_alloc_at _ _ _ _ (by simp)]; simp; done) | (rw [World.cell?_alloc_past _ _ _ (by simp <;> omega), World.cell?_alloc_at _ _ _ _ (by simp)]; simp; done) | (rw [World.cell?_alloc_past _ _ _ (by simp <;> omega), World.cell?_alloc_past _ _ _ (by simp <;> omega), World.cell?_alloc_at _ _ _ _ (by simp)]; simp; done) | (rw [World.cell?_alloc_past _ _ _ (by simp <;> omega), World.cell?_alloc_past _ _ _ (by simp <;> omega), World.cell?_alloc_past _ _ _ (by simp <;> omega), World.cell?_alloc_at _ _ _ _ (by simp)]; simp; done))
    have ac7_a0_0 := fun o => keepa o c7_a0_0
    have ac7_a0_1 := fun o => keepa o c7_a0_1
    have ac7_a0_2 := fun o => keepa o c7_a0_2
    have ac7_a1_0 := fun o => keepa o c7_a1_0
    have ac7_a1_1 := fun o => keepa o c7_a1_1
    have ac7_a1_2 := fun o => keepa o c7_a1_2
    have ac7_o33_0 := fun o => keepa o c7_o33_0
    have ac7_o33_1 := fun o => keepa o c7_o33_1
    have ac7_o33_2 := fun o => keepa o c7_o33_2
    have ac7_o35_0 := fun o => keepa o c7_o35_0
    have ac7_o35_1 := fun o => keepa o c7_o35_1
    have ac7_o35_2 := fun o => keepa o c7_o35_2
    have ac7_o38_0 := fun o => keepa o c7_o38_0
    have ac7_o38_1 := fun o => keepa o c7_o38_1
    have ac7_o38_2 := fun o => keepa o c7_o38_2
    have ac7_o47_0 := fun o => keepa o c7_o47_0
    have ac7_o47_1 := fun o => keepa o c7_o47_1
    have ac7_o47_2 := fun o => keepa o c7_o47_2
    have rP0 := P0.out.below hb'; clear P0; have P0 := Lib.hid rP0; clear rP0
    have rP1 := P1.out.below hb'; clear P1; have P1 := Lib.hid rP1; clear rP1
    have rFo33 := Fo33.out.below hb'; clear Fo33; have Fo33 := Lib.hid rFo33; clear rFo33
    have rFo35 := Fo35.out.below hb'; clear Fo35; have Fo35 := Lib.hid rFo35; clear rFo35
    have rFo38 := Fo38.out.below hb'; clear Fo38; have Fo38 := Lib.hid rFo38; clear rFo38
    have rFo47 := Fo47.out.below hb'; clear Fo47; have Fo47 := Lib.hid rFo47; clear rFo47
    have rB := below_chain B.out (by omega) hb'; clear B; have B := Lib.hid rB; clear rB
    clear hb hb'
    go_wp2_with fail
    have fx_c7_a0_0 := Ext.cell c7_a0_0
    have fx_c7_a0_1 := Ext.cell c7_a0_1
    have fx_c7_a0_2 := Ext.cell c7_a0_2
    have fx_c7_a1_0 := Ext.cell c7_a1_0
    have fx_c7_a1_1 := Ext.cell c7_a1_1
    have fx_c7_a1_2 := Ext.cell c7_a1_2
    have fx_c7_o33_0 := Ext.cell c7_o33_0
    have fx_c7_o33_1 := Ext.cell c7_o33_1
    have fx_c7_o33_2 := Ext.cell c7_o33_2
    have fx_c7_o35_0 := Ext.cell c7_o35_0
    have fx_c7_o35_1 := Ext.cell c7_o35_1
    have fx_c7_o35_2 := Ext.cell c7_o35_2
    have fx_c7_o38_0 := Ext.cell c7_o38_0
    have fx_c7_o38_1 := Ext.cell c7_o38_1
    have fx_c7_o38_2 := Ext.cell c7_o38_2
    have fx_c7_o47_0 := Ext.cell c7_o47_0
    have fx_c7_o47_1 := Ext.cell c7_o47_1
    have fx_c7_o47_2 := Ext.cell c7_o47_2
    refine Mix.wp_region_mix [3, 3, 1, 1, 0] (fun w' => ∃ x : Ext w7, w' = x.w) (by kernel_rfl) (by kernel_rfl) (InExt.drew _) ?_
    repeat (first | (refine Mix.wpMix_read (by rfl) ?_; go_big_quiet_step (fail); refine wpQuiet_nil ?_) | (refine Mix.wpMix_pure (by rfl) ?_; go_big_quiet_step (fail); refine wpQuiet_nil ?_))
    refine Mix.wpMix_chg (by rfl) (fun K hK => ?_)
    go_wp2_with fail
    refine (toMachine_c _ _ _ _ _ _ _ (by exact (P0.out.rd)) (by omega)).mono ?_
    rintro e w8 ⟨g048, rfl, q8, hb⟩
    have hb' : Below w7.heap.size w7 w8 := (by first | (with_reducible exact hb) | (with_reducible exact up1 hb) | (with_reducible exact up2 hb) | (with_reducible exact up3 hb) | (with_reducible exact up4 hb) | (with_reducible exact below_of_drew hb) | (with_reducible exact below_of_drew (up1 hb)))
    have z8 := hb'.size
    have c8_a0_0 : w8.cell? ⟨w.heap.size, 0, none⟩ = some (.int .i64 sy0) := keepc hb' c7_a0_0
    clear c7_a0_0 ac7_a0_0
    have c8_a0_1 : w8.cell? ⟨w.heap.size, 1, none⟩ = some (.int .i64 st0) := keepc hb' c7_a0_1
    clear c7_a0_1 ac7_a0_1
    have c8_a0_2 : w8.cell? ⟨w.heap.size, 2, none⟩ = some (.slice A0 n0 c0) := keepc hb' c7_a0_2
    clear c7_a0_2 ac7_a0_2
    have c8_a1_0 : w8.cell? ⟨(w.heap.size + 1), 0, none⟩ = some (.int .i64 st1) := keepc hb' c7_a1_0
    clear c7_a1_0 ac7_a1_0
    have c8_a1_1 : w8.cell? ⟨(w.heap.size + 1), 1, none⟩ = some (.slice A1 n1 c1) := keepc hb' c7_a1_1
    clear c7_a1_1 ac7_a1_1
    have c8_a1_2 : w8.cell? ⟨(w.heap.size + 1), 2, none⟩ = some (.slice B1 m1 d1) := keepc hb' c7_a1_2
    clear c7_a1_2 ac7_a1_2
    have c8_o33_0 : w8.cell? ⟨g17, 0, none⟩ = some (.int .i64 RR.1.1) := keepc hb' c7_o33_0
    clear c7_o33_0 ac7_o33_0
    have c8_o33_1 : w8.cell? ⟨g17, 1, none⟩ = some (.slice A11 n12 c13) := keepc hb' c7_o33_1
    clear c7_o33_1 ac7_o33_1
    have c8_o33_2 : w8.cell? ⟨g17, 2, none⟩ = some (.slice B14 m15 d16) := keepc hb' c7_o33_2
    clear c7_o33_2 ac7_o33_2
    have c8_o35_0 : w8.cell? ⟨w4.heap.size, 0, none⟩ = some (.int .i64 sy0) := keepc hb' c7_o35_0
    clear c7_o35_0 ac7_o35_0
    have c8_o35_1 : w8.cell? ⟨w4.heap.size, 1, none⟩ = some (.int .i64 st0) := keepc hb' c7_o35_1
    clear c7_o35_1 ac7_o35_1
    have c8_o35_2 : w8.cell? ⟨w4.heap.size, 2, none⟩ = some (.slice (some ⟨g034, 0, none⟩) n0 n0) := keepc hb' c7_o35_2
    clear c7_o35_2 ac7_o35_2
    have c8_o38_0 : w8.cell? ⟨w5.heap.size, 0, none⟩ = some (.int .i64 st1) := keepc hb' c7_o38_0
    clear c7_o38_0 ac7_o38_0
    have c8_o38_1 : w8.cell? ⟨w5.heap.size, 1, none⟩ = some (.slice (some ⟨g036, 0, none⟩) n1 n1) := keepc hb' c7_o38_1
    clear c7_o38_1 ac7_o38_1
    have c8_o38_2 : w8.cell? ⟨w5.heap.size, 2, none⟩ = some (.slice (some ⟨g137, 0, none⟩) m1 m1) := keepc hb' c7_o38_2
    clear c7_o38_2 ac7_o38_2
    have c8_o47_0 : w8.cell? ⟨w6.heap.size, 0, none⟩ = some (.int .i64 RR.1.1) := keepc hb' c7_o47_0
    clear c7_o47_0 ac7_o47_0
    have c8_o47_1 : w8.cell? ⟨w6.heap.size, 1, none⟩ = some (.slice A39 n40 c41) := keepc hb' c7_o47_1
    clear c7_o47_1 ac7_o47_1
    have c8_o47_2 : w8.cell? ⟨w6.heap.size, 2, none⟩ = some (.slice B42 m43 d44) := keepc hb' c7_o47_2
    clear c7_o47_2 ac7_o47_2
    have ac8_a0_0 := fun o => keepa o c8_a0_0
    have ac8_a0_1 := fun o => keepa o c8_a0_1
    have ac8_a0_2 := fun o => keepa o c8_a0_2
    have ac8_a1_0 := fun o => keepa o c8_a1_0
    have ac8_a1_1 := fun o => keepa o c8_a1_1
    have ac8_a1_2 := fun o => keepa o c8_a1_2
    have ac8_o33_0 := fun o => keepa o c8_o33_0
    have ac8_o33_1 := fun o => keepa o c8_o33_1
    have ac8_o33_2 := fun o => keepa o c8_o33_2
    have ac8_o35_0 := fun o => keepa o c8_o35_0
    have ac8_o35_1 := fun o => keepa o c8_o35_1
    have ac8_o35_2 := fun o => keepa o c8_o35_2
    have ac8_o38_0 := fun o => keepa o c8_o38_0
    have ac8_o38_1 := fun o => keepa o c8_o38_1
    have ac8_o38_2 := fun o => keepa o c8_o38_2
    have ac8_o47_0 := fun o => keepa o c8_o47_0
    have ac8_o47_1 := fun o => keepa o c8_o47_1
    have ac8_o47_2 := fun o => keepa o c8_o47_2
    have rP0 := P0.out.below hb'; clear P0; have P0 := Lib.hid rP0; clear rP0
    have rP1 := P1.out.below hb'; clear P1; have P1 := Lib.hid rP1; clear rP1
    have rFo33 := Fo33.out.below hb'; clear Fo33; have Fo33 := Lib.hid rFo33; clear rFo33
    have rFo35 := Fo35.out.below hb'; clear Fo35; have Fo35 := Lib.hid rFo35; clear rFo35
    have rFo38 := Fo38.out.below hb'; clear Fo38; have Fo38 := Lib.hid rFo38; clear rFo38
    have rFo47 := Fo47.out.below hb'; clear Fo47; have Fo47 := Lib.hid rFo47; clear rFo47
    have rB := below_chain B.out (by omega) hb'; clear B; have B := Lib.hid rB; clear rB
    have Fo49 := Lib.hid q8; clear q8
    have em8 : Below w7.heap.size w7 w8 := hb'
    clear hb hb'
    go_wp2_with fail
    refine hK _ _ ⟨⟨_, em8⟩, rfl⟩ ?_
    clear hK K
    refine Mix.wpMix_chg (by rfl) (fun K hK => ?_)
    go_wp2_with fail
    refine (eqMachine_t _ _ _ _ _ _ _ _ _ _ (by exact (Fo35.out.rd)) (by exact (Fo49.out.rd)) (by omega)).mono ?_
    rintro e w9 ⟨rfl, hb⟩
    have hb' : Below w8.heap.size w8 w9 := (by first | (with_reducible exact hb) | (with_reducible exact up1 hb) | (with_reducible exact up2 hb) | (with_reducible exact up3 hb) | (with_reducible exact up4 hb) | (with_reducible exact below_of_drew hb) | (with_reducible exact below_of_drew (up1 hb)))
    have z9 := hb'.size
    have c9_a0_0 : w9.cell? ⟨w.heap.size, 0, none⟩ = some (.int .i64 sy0) := keepc hb' c8_a0_0
    clear c8_a0_0 ac8_a0_0
    have c9_a0_1 : w9.cell? ⟨w.heap.size, 1, none⟩ = some (.int .i64 st0) := keepc hb' c8_a0_1
    clear c8_a0_1 ac8_a0_1
    have c9_a0_2 : w9.cell? ⟨w.heap.size, 2, none⟩ = some (.slice A0 n0 c0) := keepc hb' c8_a0_2
    clear c8_a0_2 ac8_a0_2
    have c9_a1_0 : w9.cell? ⟨(w.heap.size + 1), 0, none⟩ = some (.int .i64 st1) := keepc hb' c8_a1_0
    clear c8_a1_0 ac8_a1_0
    have c9_a1_1 : w9.cell? ⟨(w.heap.size + 1), 1, none⟩ = some (.slice A1 n1 c1) := keepc hb' c8_a1_1
    clear c8_a1_1 ac8_a1_1
    have c9_a1_2 : w9.cell? ⟨(w.heap.size + 1), 2, none⟩ = some (.slice B1 m1 d1) := keepc hb' c8_a1_2
    clear c8_a1_2 ac8_a1_2
    have c9_o33_0 : w9.cell? ⟨g17, 0, none⟩ = some (.int .i64 RR.1.1) := keepc hb' c8_o33_0
    clear c8_o33_0 ac8_o33_0
    have c9_o33_1 : w9.cell? ⟨g17, 1, none⟩ = some (.slice A11 n12 c13) := keepc hb' c8_o33_1
    clear c8_o33_1 ac8_o33_1
    have c9_o33_2 : w9.cell? ⟨g17, 2, none⟩ = some (.slice B14 m15 d16) := keepc hb' c8_o33_2
    clear c8_o33_2 ac8_o33_2
    have c9_o35_0 : w9.cell? ⟨w4.heap.size, 0, none⟩ = some (.int .i64 sy0) := keepc hb' c8_o35_0
    clear c8_o35_0 ac8_o35_0
    have c9_o35_1 : w9.cell? ⟨w4.heap.size, 1, none⟩ = some (.int .i64 st0) := keepc hb' c8_o35_1
    clear c8_o35_1 ac8_o35_1
    have c9_o35_2 : w9.cell? ⟨w4.heap.size, 2, none⟩ = some (.slice (some ⟨g034, 0, none⟩) n0 n0) := keepc hb' c8_o35_2
    clear c8_o35_2 ac8_o35_2
    have c9_o38_0 : w9.cell? ⟨w5.heap.size, 0, none⟩ = some (.int .i64 st1) := keepc hb' c8_o38_0
    clear c8_o38_0 ac8_o38_0
    have c9_o38_1 : w9.cell? ⟨w5.heap.size, 1, none⟩ = some (.slice (some ⟨g036, 0, none⟩) n1 n1) := keepc hb' c8_o38_1
    clear c8_o38_1 ac8_o38_1
    have c9_o38_2 : w9.cell? ⟨w5.heap.size, 2, none⟩ = some (.slice (some ⟨g137, 0, none⟩) m1 m1) := keepc hb' c8_o38_2
    clear c8_o38_2 ac8_o38_2
    have c9_o47_0 : w9.cell? ⟨w6.heap.size, 0, none⟩ = some (.int .i64 RR.1.1) := keepc hb' c8_o47_0
    clear c8_o47_0 ac8_o47_0
    have c9_o47_1 : w9.cell? ⟨w6.heap.size, 1, none⟩ = some (.slice A39 n40 c41) := keepc hb' c8_o47_1
    clear c8_o47_1 ac8_o47_1
    have c9_o47_2 : w9.cell? ⟨w6.heap.size, 2, none⟩ = some (.slice B42 m43 d44) := keepc hb' c8_o47_2
    clear c8_o47_2 ac8_o47_2
    have ac9_a0_0 := fun o => keepa o c9_a0_0
    have ac9_a0_1 := fun o => keepa o c9_a0_1
    have ac9_a0_2 := fun o => keepa o c9_a0_2
    have ac9_a1_0 := fun o => keepa o c9_a1_0
    have ac9_a1_1 := fun o => keepa o c9_a1_1
    have ac9_a1_2 := fun o => keepa o c9_a1_2
    have ac9_o33_0 := fun o => keepa o c9_o33_0
    have ac9_o33_1 := fun o => keepa o c9_o33_1
    have ac9_o33_2 := fun o => keepa o c9_o33_2
    have ac9_o35_0 := fun o => keepa o c9_o35_0
    have ac9_o35_1 := fun o => keepa o c9_o35_1
    have ac9_o35_2 := fun o => keepa o c9_o35_2
    have ac9_o38_0 := fun o => keepa o c9_o38_0
    have ac9_o38_1 := fun o => keepa o c9_o38_1
    have ac9_o38_2 := fun o => keepa o c9_o38_2
    have ac9_o47_0 := fun o => keepa o c9_o47_0
    have ac9_o47_1 := fun o => keepa o c9_o47_1
    have ac9_o47_2 := fun o => keepa o c9_o47_2
    have rP0 := P0.out.below hb'; clear P0; have P0 := Lib.hid rP0; clear rP0
    have rP1 := P1.out.below hb'; clear P1; have P1 := Lib.hid rP1; clear rP1
    have rFo33 := Fo33.out.below hb'; clear Fo33; have Fo33 := Lib.hid rFo33; clear rFo33
    have rFo35 := Fo35.out.below hb'; clear Fo35; have Fo35 := Lib.hid rFo35; clear rFo35
    have rFo38 := Fo38.out.below hb'; clear Fo38; have Fo38 := Lib.hid rFo38; clear rFo38
    have rFo47 := Fo47.out.below hb'; clear Fo47; have Fo47 := Lib.hid rFo47; clear rFo47
    have rFo49 := Fo49.out.below hb'; clear Fo49; have Fo49 := Lib.hid rFo49; clear rFo49
    have rB := below_chain B.out (by omega) hb'; clear B; have B := Lib.hid rB; clear rB
    have em9 : Below w7.heap.size w7 w9 := below_chain em8 (by omega) hb'
    clear hb hb'
    go_wp2_with fail
    refine hK _ _ ⟨⟨_, em9⟩, rfl⟩ ?_
    clear hK K
    repeat (first | (refine Mix.wpMix_read (by rfl) ?_; go_big_quiet_step (fail); refine wpQuiet_nil ?_) | (refine Mix.wpMix_pure (by rfl) ?_; go_big_quiet_step (fail); refine wpQuiet_nil ?_))
    (refine Mix.wpMix_nil ?_; try simp only [Exit.then])
    clear fx_c7_a0_0
    clear fx_c7_a0_1
    clear fx_c7_a0_2
    clear fx_c7_a1_0
    clear fx_c7_a1_1
    clear fx_c7_a1_2
    clear fx_c7_o33_0
    clear fx_c7_o33_1
    clear fx_c7_o33_2
    clear fx_c7_o35_0
    clear fx_c7_o35_1
    clear fx_c7_o35_2
    clear fx_c7_o38_0
    clear fx_c7_o38_1
    clear fx_c7_o38_2
    clear fx_c7_o47_0
    clear fx_c7_o47_1
    clear fx_c7_o47_2
    clear Fo49
    go_wp2_with fail
    have fx_c9_a0_0 := Ext.cell c9_a0_0
    have fx_c9_a0_1 := Ext.cell c9_a0_1
    have fx_c9_a0_2 := Ext.cell c9_a0_2
    have fx_c9_a1_0 := Ext.cell c9_a1_0
    have fx_c9_a1_1 := Ext.cell c9_a1_1
    have fx_c9_a1_2 := Ext.cell c9_a1_2
    have fx_c9_o33_0 := Ext.cell c9_o33_0
    have fx_c9_o33_1 := Ext.cell c9_o33_1
    have fx_c9_o33_2 := Ext.cell c9_o33_2
    have fx_c9_o35_0 := Ext.cell c9_o35_0
    have fx_c9_o35_1 := Ext.cell c9_o35_1
    have fx_c9_o35_2 := Ext.cell c9_o35_2
    have fx_c9_o38_0 := Ext.cell c9_o38_0
    have fx_c9_o38_1 := Ext.cell c9_o38_1
    have fx_c9_o38_2 := Ext.cell c9_o38_2
    have fx_c9_o47_0 := Ext.cell c9_o47_0
    have fx_c9_o47_1 := Ext.cell c9_o47_1
    have fx_c9_o47_2 := Ext.cell c9_o47_2
    refine Mix.wp_region_mix [3, 3, 1, 1, 0] (fun w' => ∃ x : Ext w9, w' = x.w) (by kernel_rfl) (by kernel_rfl) (InExt.drew _) ?_
    repeat (first | (refine Mix.wpMix_read (by rfl) ?_; go_big_quiet_step (fail); refine wpQuiet_nil ?_) | (refine Mix.wpMix_pure (by rfl) ?_; go_big_quiet_step (fail); refine wpQuiet_nil ?_))
    refine Mix.wpMix_chg (by rfl) (fun K hK => ?_)
    go_wp2_with fail
    refine (toConfig_c _ _ _ _ _ _ _ _ _ _ (by exact (P1.out.rd)) (by omega) (by omega)).mono ?_
    rintro e w10 ⟨g050, g151, rfl, q10, hb⟩
    have hb' : Below w9.heap.size w9 w10 := (by first | (with_reducible exact hb) | (with_reducible exact up1 hb) | (with_reducible exact up2 hb) | (with_reducible exact up3 hb) | (with_reducible exact up4 hb) | (with_reducible exact below_of_drew hb) | (with_reducible exact below_of_drew (up1 hb)))
    have z10 := hb'.size
    have c10_a0_0 : w10.cell? ⟨w.heap.size, 0, none⟩ = some (.int .i64 sy0) := keepc hb' c9_a0_0
    clear c9_a0_0 ac9_a0_0
    have c10_a0_1 : w10.cell? ⟨w.heap.size, 1, none⟩ = some (.int .i64 st0) := keepc hb' c9_a0_1
    clear c9_a0_1 ac9_a0_1
    have c10_a0_2 : w10.cell? ⟨w.heap.size, 2, none⟩ = some (.slice A0 n0 c0) := keepc hb' c9_a0_2
    clear c9_a0_2 ac9_a0_2
    have c10_a1_0 : w10.cell? ⟨(w.heap.size + 1), 0, none⟩ = some (.int .i64 st1) := keepc hb' c9_a1_0
    clear c9_a1_0 ac9_a1_0
    have c10_a1_1 : w10.cell? ⟨(w.heap.size + 1), 1, none⟩ = some (.slice A1 n1 c1) := keepc hb' c9_a1_1
    clear c9_a1_1 ac9_a1_1
    have c10_a1_2 : w10.cell? ⟨(w.heap.size + 1), 2, none⟩ = some (.slice B1 m1 d1) := keepc hb' c9_a1_2
    clear c9_a1_2 ac9_a1_2
    have c10_o33_0 : w10.cell? ⟨g17, 0, none⟩ = some (.int .i64 RR.1.1) := keepc hb' c9_o33_0
    clear c9_o33_0 ac9_o33_0
    have c10_o33_1 : w10.cell? ⟨g17, 1, none⟩ = some (.slice A11 n12 c13) := keepc hb' c9_o33_1
    clear c9_o33_1 ac9_o33_1
    have c10_o33_2 : w10.cell? ⟨g17, 2, none⟩ = some (.slice B14 m15 d16) := keepc hb' c9_o33_2
    clear c9_o33_2 ac9_o33_2
    have c10_o35_0 : w10.cell? ⟨w4.heap.size, 0, none⟩ = some (.int .i64 sy0) := keepc hb' c9_o35_0
    clear c9_o35_0 ac9_o35_0
    have c10_o35_1 : w10.cell? ⟨w4.heap.size, 1, none⟩ = some (.int .i64 st0) := keepc hb' c9_o35_1
    clear c9_o35_1 ac9_o35_1
    have c10_o35_2 : w10.cell? ⟨w4.heap.size, 2, none⟩ = some (.slice (some ⟨g034, 0, none⟩) n0 n0) := keepc hb' c9_o35_2
    clear c9_o35_2 ac9_o35_2
    have c10_o38_0 : w10.cell? ⟨w5.heap.size, 0, none⟩ = some (.int .i64 st1) := keepc hb' c9_o38_0
    clear c9_o38_0 ac9_o38_0
    have c10_o38_1 : w10.cell? ⟨w5.heap.size, 1, none⟩ = some (.slice (some ⟨g036, 0, none⟩) n1 n1) := keepc hb' c9_o38_1
    clear c9_o38_1 ac9_o38_1
    have c10_o38_2 : w10.cell? ⟨w5.heap.size, 2, none⟩ = some (.slice (some ⟨g137, 0, none⟩) m1 m1) := keepc hb' c9_o38_2
    clear c9_o38_2 ac9_o38_2
    have c10_o47_0 : w10.cell? ⟨w6.heap.size, 0, none⟩ = some (.int .i64 RR.1.1) := keepc hb' c9_o47_0
    clear c9_o47_0 ac9_o47_0
    have c10_o47_1 : w10.cell? ⟨w6.heap.size, 1, none⟩ = some (.slice A39 n40 c41) := keepc hb' c9_o47_1
    clear c9_o47_1 ac9_o47_1
    have c10_o47_2 : w10.cell? ⟨w6.heap.size, 2, none⟩ = some (.slice B42 m43 d44) := keepc hb' c9_o47_2
    clear c9_o47_2 ac9_o47_2
    have ac10_a0_0 := fun o => keepa o c10_a0_0
    have ac10_a0_1 := fun o => keepa o c10_a0_1
    have ac10_a0_2 := fun o => keepa o c10_a0_2
    have ac10_a1_0 := fun o => keepa o c10_a1_0
    have ac10_a1_1 := fun o => keepa o c10_a1_1
    have ac10_a1_2 := fun o => keepa o c10_a1_2
    have ac10_o33_0 := fun o => keepa o c10_o33_0
    have ac10_o33_1 := fun o => keepa o c10_o33_1
    have ac10_o33_2 := fun o => keepa o c10_o33_2
    have ac10_o35_0 := fun o => keepa o c10_o35_0
    have ac10_o35_1 := fun o => keepa o c10_o35_1
    have ac10_o35_2 := fun o => keepa o c10_o35_2
    have ac10_o38_0 := fun o => keepa o c10_o38_0
    have ac10_o38_1 := fun o => keepa o c10_o38_1
    have ac10_o38_2 := fun o => keepa o c10_o38_2
    have ac10_o47_0 := fun o => keepa o c10_o47_0
    have ac10_o47_1 := fun o => keepa o c10_o47_1
    have ac10_o47_2 := fun o => keepa o c10_o47_2
    have rP0 := P0.out.below hb'; clear P0; have P0 := Lib.hid rP0; clear rP0
    have rP1 := P1.out.below hb'; clear P1; have P1 := Lib.hid rP1; clear rP1
    have rFo33 := Fo33.out.below hb'; clear Fo33; have Fo33 := Lib.hid rFo33; clear rFo33
    have rFo35 := Fo35.out.below hb'; clear Fo35; have Fo35 := Lib.hid rFo35; clear rFo35
    have rFo38 := Fo38.out.below hb'; clear Fo38; have Fo38 := Lib.hid rFo38; clear rFo38
    have rFo47 := Fo47.out.below hb'; clear Fo47; have Fo47 := Lib.hid rFo47; clear rFo47
    have rB := below_chain B.out (by omega) hb'; clear B; have B := Lib.hid rB; clear rB
    have Fo52 := Lib.hid q10; clear q10
    have em10 : Below w9.heap.size w9 w10 := hb'
    clear hb hb'
    go_wp2_with fail
    refine hK _ _ ⟨⟨_, em10⟩, rfl⟩ ?_
    clear hK K
    refine Mix.wpMix_chg (by rfl) (fun K hK => ?_)
    go_wp2_with fail
    refine (eqConfig_t _ _ _ _ _ _ _ _ _ _ _ _ _ _ _ _ (by exact (Fo38.out.rd)) (by exact (Fo52.out.rd)) (by omega) (by omega)).mono ?_
    rintro e w11 ⟨rfl, hb⟩
    have hb' : Below w10.heap.size w10 w11 := (by first | (with_reducible exact hb) | (with_reducible exact up1 hb) | (with_reducible exact up2 hb) | (with_reducible exact up3 hb) | (with_reducible exact up4 hb) | (with_reducible exact below_of_drew hb) | (with_reducible exact below_of_drew (up1 hb)))
    have z11 := hb'.size
    have c11_a0_0 : w11.cell? ⟨w.heap.size, 0, none⟩ = some (.int .i64 sy0) := keepc hb' c10_a0_0
    clear c10_a0_0 ac10_a0_0
    have c11_a0_1 : w11.cell? ⟨w.heap.size, 1, none⟩ = some (.int .i64 st0) := keepc hb' c10_a0_1
    clear c10_a0_1 ac10_a0_1
    have c11_a0_2 : w11.cell? ⟨w.heap.size, 2, none⟩ = some (.slice A0 n0 c0) := keepc hb' c10_a0_2
    clear c10_a0_2 ac10_a0_2
    have c11_a1_0 : w11.cell? ⟨(w.heap.size + 1), 0, none⟩ = some (.int .i64 st1) := keepc hb' c10_a1_0
    clear c10_a1_0 ac10_a1_0
    have c11_a1_1 : w11.cell? ⟨(w.heap.size + 1), 1, none⟩ = some (.slice A1 n1 c1) := keepc hb' c10_a1_1
    clear c10_a1_1 ac10_a1_1
    have c11_a1_2 : w11.cell? ⟨(w.heap.size + 1), 2, none⟩ = some (.slice B1 m1 d1) := keepc hb' c10_a1_2
    clear c10_a1_2 ac10_a1_2
    have c11_o33_0 : w11.cell? ⟨g17, 0, none⟩ = some (.int .i64 RR.1.1) := keepc hb' c10_o33_0
    clear c10_o33_0 ac10_o33_0
    have c11_o33_1 : w11.cell? ⟨g17, 1, none⟩ = some (.slice A11 n12 c13) := keepc hb' c10_o33_1
    clear c10_o33_1 ac10_o33_1
    have c11_o33_2 : w11.cell? ⟨g17, 2, none⟩ = some (.slice B14 m15 d16) := keepc hb' c10_o33_2
    clear c10_o33_2 ac10_o33_2
    have c11_o35_0 : w11.cell? ⟨w4.heap.size, 0, none⟩ = some (.int .i64 sy0) := keepc hb' c10_o35_0
    clear c10_o35_0 ac10_o35_0
    have c11_o35_1 : w11.cell? ⟨w4.heap.size, 1, none⟩ = some (.int .i64 st0) := keepc hb' c10_o35_1
    clear c10_o35_1 ac10_o35_1
    have c11_o35_2 : w11.cell? ⟨w4.heap.size, 2, none⟩ = some (.slice (some ⟨g034, 0, none⟩) n0 n0) := keepc hb' c10_o35_2
    clear c10_o35_2 ac10_o35_2
    have c11_o38_0 : w11.cell? ⟨w5.heap.size, 0, none⟩ = some (.int .i64 st1) := keepc hb' c10_o38_0
    clear c10_o38_0 ac10_o38_0
    have c11_o38_1 : w11.cell? ⟨w5.heap.size, 1, none⟩ = some (.slice (some ⟨g036, 0, none⟩) n1 n1) := keepc hb' c10_o38_1
    clear c10_o38_1 ac10_o38_1
    have c11_o38_2 : w11.cell? ⟨w5.heap.size, 2, none⟩ = some (.slice (some ⟨g137, 0, none⟩) m1 m1) := keepc hb' c10_o38_2
    clear c10_o38_2 ac10_o38_2
    have c11_o47_0 : w11.cell? ⟨w6.heap.size, 0, none⟩ = some (.int .i64 RR.1.1) := keepc hb' c10_o47_0
    clear c10_o47_0 ac10_o47_0
    have c11_o47_1 : w11.cell? ⟨w6.heap.size, 1, none⟩ = some (.slice A39 n40 c41) := keepc hb' c10_o47_1
    clear c10_o47_1 ac10_o47_1
    have c11_o47_2 : w11.cell? ⟨w6.heap.size, 2, none⟩ = some (.slice B42 m43 d44) := keepc hb' c10_o47_2
    clear c10_o47_2 ac10_o47_2
    have ac11_a0_0 := fun o => keepa o c11_a0_0
    have ac11_a0_1 := fun o => keepa o c11_a0_1
    have ac11_a0_2 := fun o => keepa o c11_a0_2
    have ac11_a1_0 := fun o => keepa o c11_a1_0
    have ac11_a1_1 := fun o => keepa o c11_a1_1
    have ac11_a1_2 := fun o => keepa o c11_a1_2
    have ac11_o33_0 := fun o => keepa o c11_o33_0
    have ac11_o33_1 := fun o => keepa o c11_o33_1
    have ac11_o33_2 := fun o => keepa o c11_o33_2
    have ac11_o35_0 := fun o => keepa o c11_o35_0
    have ac11_o35_1 := fun o => keepa o c11_o35_1
    have ac11_o35_2 := fun o => keepa o c11_o35_2
    have ac11_o38_0 := fun o => keepa o c11_o38_0
    have ac11_o38_1 := fun o => keepa o c11_o38_1
    have ac11_o38_2 := fun o => keepa o c11_o38_2
    have ac11_o47_0 := fun o => keepa o c11_o47_0
    have ac11_o47_1 := fun o => keepa o c11_o47_1
    have ac11_o47_2 := fun o => keepa o c11_o47_2
    have rP0 := P0.out.below hb'; clear P0; have P0 := Lib.hid rP0; clear rP0
    have rP1 := P1.out.below hb'; clear P1; have P1 := Lib.hid rP1; clear rP1
    have rFo33 := Fo33.out.below hb'; clear Fo33; have Fo33 := Lib.hid rFo33; clear rFo33
    have rFo35 := Fo35.out.below hb'; clear Fo35; have Fo35 := Lib.hid rFo35; clear rFo35
    have rFo38 := Fo38.out.below hb'; clear Fo38; have Fo38 := Lib.hid rFo38; clear rFo38
    have rFo47 := Fo47.out.below hb'; clear Fo47; have Fo47 := Lib.hid rFo47; clear rFo47
    have rFo52 := Fo52.out.below hb'; clear Fo52; have Fo52 := Lib.hid rFo52; clear rFo52
    have rB := below_chain B.out (by omega) hb'; clear B; have B := Lib.hid rB; clear rB
    have em11 : Below w9.heap.size w9 w11 := below_chain em10 (by omega) hb'
    clear hb hb'
    go_wp2_with fail
    refine hK _ _ ⟨⟨_, em11⟩, rfl⟩ ?_
    clear hK K
    repeat (first | (refine Mix.wpMix_read (by rfl) ?_; go_big_quiet_step (fail); refine wpQuiet_nil ?_) | (refine Mix.wpMix_pure (by rfl) ?_; go_big_quiet_step (fail); refine wpQuiet_nil ?_))
    (refine Mix.wpMix_nil ?_; try simp only [Exit.then])
    clear fx_c9_a0_0
    clear fx_c9_a0_1
    clear fx_c9_a0_2
    clear fx_c9_a1_0
    clear fx_c9_a1_1
    clear fx_c9_a1_2
    clear fx_c9_o33_0
    clear fx_c9_o33_1
    clear fx_c9_o33_2
    clear fx_c9_o35_0
    clear fx_c9_o35_1
    clear fx_c9_o35_2
    clear fx_c9_o38_0
    clear fx_c9_o38_1
    clear fx_c9_o38_2
    clear fx_c9_o47_0
    clear fx_c9_o47_1
    clear fx_c9_o47_2
    clear Fo52
    go_wp2_with fail
    refine (markMachine_c _ _ _ _ _ _ _ _ _ _ (by exact (Fo35.out)) (by omega) (by omega) (by omega)).mono ?_
    rintro e w12 ⟨rfl, q12, hk⟩
    have hk' : KeepR w3.heap.size w4.heap.size w11 w12 := (by first | (with_reducible exact hk) | (with_reducible exact hk.up1) | (with_reducible exact hk.up1.up1))
    have z12 := hk'.size
    have c12_a0_0 : w12.cell? ⟨w.heap.size, 0, none⟩ = some (.int .i64 sy0) := hk'.cell (by simp <;> omega) c11_a0_0
    clear c11_a0_0 ac11_a0_0
    have c12_a0_1 : w12.cell? ⟨w.heap.size, 1, none⟩ = some (.int .i64 st0) := hk'.cell (by simp <;> omega) c11_a0_1
    clear c11_a0_1 ac11_a0_1
    have c12_a0_2 : w12.cell? ⟨w.heap.size, 2, none⟩ = some (.slice A0 n0 c0) := hk'.cell (by simp <;> omega) c11_a0_2
    clear c11_a0_2 ac11_a0_2
    have c12_a1_0 : w12.cell? ⟨(w.heap.size + 1), 0, none⟩ = some (.int .i64 st1) := hk'.cell (by simp <;> omega) c11_a1_0
    clear c11_a1_0 ac11_a1_0
    have c12_a1_1 : w12.cell? ⟨(w.heap.size + 1), 1, none⟩ = some (.slice A1 n1 c1) := hk'.cell (by simp <;> omega) c11_a1_1
    clear c11_a1_1 ac11_a1_1
    have c12_a1_2 : w12.cell? ⟨(w.heap.size + 1), 2, none⟩ = some (.slice B1 m1 d1) := hk'.cell (by simp <;> omega) c11_a1_2
    clear c11_a1_2 ac11_a1_2
    have c12_o33_0 : w12.cell? ⟨g17, 0, none⟩ = some (.int .i64 RR.1.1) := hk'.cell (by simp <;> omega) c11_o33_0
    clear c11_o33_0 ac11_o33_0
    have c12_o33_1 : w12.cell? ⟨g17, 1, none⟩ = some (.slice A11 n12 c13) := hk'.cell (by simp <;> omega) c11_o33_1
    clear c11_o33_1 ac11_o33_1
    have c12_o33_2 : w12.cell? ⟨g17, 2, none⟩ = some (.slice B14 m15 d16) := hk'.cell (by simp <;> omega) c11_o33_2
    clear c11_o33_2 ac11_o33_2
    have c12_o35_0 : w12.cell? ⟨w4.heap.size, 0, none⟩ = some (.int .i64 sy0) := hk'.cell (by simp <;> omega) c11_o35_0
    clear c11_o35_0 ac11_o35_0
    have c12_o35_1 : w12.cell? ⟨w4.heap.size, 1, none⟩ = some (.int .i64 st0) := hk'.cell (by simp <;> omega) c11_o35_1
    clear c11_o35_1 ac11_o35_1
    have c12_o35_2 : w12.cell? ⟨w4.heap.size, 2, none⟩ = some (.slice (some ⟨g034, 0, none⟩) n0 n0) := hk'.cell (by simp <;> omega) c11_o35_2
    clear c11_o35_2 ac11_o35_2
    have c12_o38_0 : w12.cell? ⟨w5.heap.size, 0, none⟩ = some (.int .i64 st1) := hk'.cell (by simp <;> omega) c11_o38_0
    clear c11_o38_0 ac11_o38_0
    have c12_o38_1 : w12.cell? ⟨w5.heap.size, 1, none⟩ = some (.slice (some ⟨g036, 0, none⟩) n1 n1) := hk'.cell (by simp <;> omega) c11_o38_1
    clear c11_o38_1 ac11_o38_1
    have c12_o38_2 : w12.cell? ⟨w5.heap.size, 2, none⟩ = some (.slice (some ⟨g137, 0, none⟩) m1 m1) := hk'.cell (by simp <;> omega) c11_o38_2
    clear c11_o38_2 ac11_o38_2
    have c12_o47_0 : w12.cell? ⟨w6.heap.size, 0, none⟩ = some (.int .i64 RR.1.1) := hk'.cell (by simp <;> omega) c11_o47_0
    clear c11_o47_0 ac11_o47_0
    have c12_o47_1 : w12.cell? ⟨w6.heap.size, 1, none⟩ = some (.slice A39 n40 c41) := hk'.cell (by simp <;> omega) c11_o47_1
    clear c11_o47_1 ac11_o47_1
    have c12_o47_2 : w12.cell? ⟨w6.heap.size, 2, none⟩ = some (.slice B42 m43 d44) := hk'.cell (by simp <;> omega) c11_o47_2
    clear c11_o47_2 ac11_o47_2
    have ac12_a0_0 := fun o => keepa o c12_a0_0
    have ac12_a0_1 := fun o => keepa o c12_a0_1
    have ac12_a0_2 := fun o => keepa o c12_a0_2
    have ac12_a1_0 := fun o => keepa o c12_a1_0
    have ac12_a1_1 := fun o => keepa o c12_a1_1
    have ac12_a1_2 := fun o => keepa o c12_a1_2
    have ac12_o33_0 := fun o => keepa o c12_o33_0
    have ac12_o33_1 := fun o => keepa o c12_o33_1
    have ac12_o33_2 := fun o => keepa o c12_o33_2
    have ac12_o35_0 := fun o => keepa o c12_o35_0
    have ac12_o35_1 := fun o => keepa o c12_o35_1
    have ac12_o35_2 := fun o => keepa o c12_o35_2
    have ac12_o38_0 := fun o => keepa o c12_o38_0
    have ac12_o38_1 := fun o => keepa o c12_o38_1
    have ac12_o38_2 := fun o => keepa o c12_o38_2
    have ac12_o47_0 := fun o => keepa o c12_o47_0
    have ac12_o47_1 := fun o => keepa o c12_o47_1
    have ac12_o47_2 := fun o => keepa o c12_o47_2
    have rP0 := P0.out.keep hk' (by omega); clear P0; have P0 := Lib.hid rP0; clear rP0
    have rP1 := P1.out.keep hk' (by omega); clear P1; have P1 := Lib.hid rP1; clear rP1
    have rFo33 := Fo33.out.keep hk' (by omega); clear Fo33; have Fo33 := Lib.hid rFo33; clear rFo33
    have rFo35 := q12; clear Fo35; have Fo35 := Lib.hid rFo35; clear rFo35 q12
    have rFo38 := Fo38.out.keep hk' (by omega); clear Fo38; have Fo38 := Lib.hid rFo38; clear rFo38
    have rFo47 := Fo47.out.keep hk' (by omega); clear Fo47; have Fo47 := Lib.hid rFo47; clear rFo47
    have rB := B.out.trans (hk'.below (B := w.heap.size) (by omega) (by omega)); clear B; have B := Lib.hid rB; clear rB
    clear hk hk'
    go_wp2_with fail
    refine (markConfig_c _ _ _ _ _ _ _ _ _ _ _ _ _ (by exact (Fo38.out)) (by omega) (by omega) (by first | omega | (simp; omega)) (by omega) (by omega)).mono ?_
    rintro e w13 ⟨rfl, q13, hk⟩
    have hk' : KeepR (w4.heap.size + 1) w5.heap.size w12 w13 := (by first | (with_reducible exact hk) | (with_reducible exact hk.up1) | (with_reducible exact hk.up1.up1))
    have z13 := hk'.size
    have c13_a0_0 : w13.cell? ⟨w.heap.size, 0, none⟩ = some (.int .i64 sy0) := hk'.cell (by simp <;> omega) c12_a0_0
    clear c12_a0_0 ac12_a0_0
    have c13_a0_1 : w13.cell? ⟨w.heap.size, 1, none⟩ = some (.int .i64 st0) := hk'.cell (by simp <;> omega) c12_a0_1
    clear c12_a0_1 ac12_a0_1
    have c13_a0_2 : w13.cell? ⟨w.heap.size, 2, none⟩ = some (.slice A0 n0 c0) := hk'.cell (by simp <;> omega) c12_a0_2
    clear c12_a0_2 ac12_a0_2
    have c13_a1_0 : w13.cell? ⟨(w.heap.size + 1), 0, none⟩ = some (.int .i64 st1) := hk'.cell (by simp <;> omega) c12_a1_0
    clear c12_a1_0 ac12_a1_0
    have c13_a1_1 : w13.cell? ⟨(w.heap.size + 1), 1, none⟩ = some (.slice A1 n1 c1) := hk'.cell (by simp <;> omega) c12_a1_1
    clear c12_a1_1 ac12_a1_1
    have c13_a1_2 : w13.cell? ⟨(w.heap.size + 1), 2, none⟩ = some (.slice B1 m1 d1) := hk'.cell (by simp <;> omega) c12_a1_2
    clear c12_a1_2 ac12_a1_2
    have c13_o33_0 : w13.cell? ⟨g17, 0, none⟩ = some (.int .i64 RR.1.1) := hk'.cell (by simp <;> omega) c12_o33_0
    clear c12_o33_0 ac12_o33_0
    have c13_o33_1 : w13.cell? ⟨g17, 1, none⟩ = some (.slice A11 n12 c13) := hk'.cell (by simp <;> omega) c12_o33_1
    clear c12_o33_1 ac12_o33_1
    have c13_o33_2 : w13.cell? ⟨g17, 2, none⟩ = some (.slice B14 m15 d16) := hk'.cell (by simp <;> omega) c12_o33_2
    clear c12_o33_2 ac12_o33_2
    have c13_o35_0 : w13.cell? ⟨w4.heap.size, 0, none⟩ = some (.int .i64 sy0) := hk'.cell (by simp <;> omega) c12_o35_0
    clear c12_o35_0 ac12_o35_0
    have c13_o35_1 : w13.cell? ⟨w4.heap.size, 1, none⟩ = some (.int .i64 st0) := hk'.cell (by simp <;> omega) c12_o35_1
    clear c12_o35_1 ac12_o35_1
    have c13_o35_2 : w13.cell? ⟨w4.heap.size, 2, none⟩ = some (.slice (some ⟨g034, 0, none⟩) n0 n0) := hk'.cell (by simp <;> omega) c12_o35_2
    clear c12_o35_2 ac12_o35_2
    have c13_o38_0 : w13.cell? ⟨w5.heap.size, 0, none⟩ = some (.int .i64 st1) := hk'.cell (by simp <;> omega) c12_o38_0
    clear c12_o38_0 ac12_o38_0
    have c13_o38_1 : w13.cell? ⟨w5.heap.size, 1, none⟩ = some (.slice (some ⟨g036, 0, none⟩) n1 n1) := hk'.cell (by simp <;> omega) c12_o38_1
    clear c12_o38_1 ac12_o38_1
    have c13_o38_2 : w13.cell? ⟨w5.heap.size, 2, none⟩ = some (.slice (some ⟨g137, 0, none⟩) m1 m1) := hk'.cell (by simp <;> omega) c12_o38_2
    clear c12_o38_2 ac12_o38_2
    have c13_o47_0 : w13.cell? ⟨w6.heap.size, 0, none⟩ = some (.int .i64 RR.1.1) := hk'.cell (by simp <;> omega) c12_o47_0
    clear c12_o47_0 ac12_o47_0
    have c13_o47_1 : w13.cell? ⟨w6.heap.size, 1, none⟩ = some (.slice A39 n40 c41) := hk'.cell (by simp <;> omega) c12_o47_1
    clear c12_o47_1 ac12_o47_1
    have c13_o47_2 : w13.cell? ⟨w6.heap.size, 2, none⟩ = some (.slice B42 m43 d44) := hk'.cell (by simp <;> omega) c12_o47_2
    clear c12_o47_2 ac12_o47_2
    have ac13_a0_0 := fun o => keepa o c13_a0_0
    have ac13_a0_1 := fun o => keepa o c13_a0_1
    have ac13_a0_2 := fun o => keepa o c13_a0_2
    have ac13_a1_0 := fun o => keepa o c13_a1_0
    have ac13_a1_1 := fun o => keepa o c13_a1_1
    have ac13_a1_2 := fun o => keepa o c13_a1_2
    have ac13_o33_0 := fun o => keepa o c13_o33_0
    have ac13_o33_1 := fun o => keepa o c13_o33_1
    have ac13_o33_2 := fun o => keepa o c13_o33_2
    have ac13_o35_0 := fun o => keepa o c13_o35_0
    have ac13_o35_1 := fun o => keepa o c13_o35_1
    have ac13_o35_2 := fun o => keepa o c13_o35_2
    have ac13_o38_0 := fun o => keepa o c13_o38_0
    have ac13_o38_1 := fun o => keepa o c13_o38_1
    have ac13_o38_2 := fun o => keepa o c13_o38_2
    have ac13_o47_0 := fun o => keepa o c13_o47_0
    have ac13_o47_1 := fun o => keepa o c13_o47_1
    have ac13_o47_2 := fun o => keepa o c13_o47_2
    have rP0 := P0.out.keep hk' (by omega); clear P0; have P0 := Lib.hid rP0; clear rP0
    have rP1 := P1.out.keep hk' (by omega); clear P1; have P1 := Lib.hid rP1; clear rP1
    have rFo33 := Fo33.out.keep hk' (by omega); clear Fo33; have Fo33 := Lib.hid rFo33; clear rFo33
    have rFo35 := Fo35.out.keep hk' (by omega); clear Fo35; have Fo35 := Lib.hid rFo35; clear rFo35
    have rFo38 := q13; clear Fo38; have Fo38 := Lib.hid rFo38; clear rFo38 q13
    have rFo47 := Fo47.out.keep hk' (by omega); clear Fo47; have Fo47 := Lib.hid rFo47; clear rFo47
    have rB := B.out.trans (hk'.below (B := w.heap.size) (by omega) (by omega)); clear B; have B := Lib.hid rB; clear rB
    clear hk hk'
    go_wp2_with fail
    refine (eqConfig_t _ _ _ _ _ _ _ _ _ _ _ _ _ _ _ _ (by exact (Fo47.out.rd)) (by exact (Fo33.out.rd)) (by omega) (by omega)).mono ?_
    rintro e w14 ⟨rfl, hb⟩
    have hb' : Below w13.heap.size w13 w14 := (by first | (with_reducible exact hb) | (with_reducible exact up1 hb) | (with_reducible exact up2 hb) | (with_reducible exact up3 hb) | (with_reducible exact up4 hb) | (with_reducible exact below_of_drew hb) | (with_reducible exact below_of_drew (up1 hb)))
    have z14 := hb'.size
    have c14_a0_0 : w14.cell? ⟨w.heap.size, 0, none⟩ = some (.int .i64 sy0) := keepc hb' c13_a0_0
    clear c13_a0_0 ac13_a0_0
    have c14_a0_1 : w14.cell? ⟨w.heap.size, 1, none⟩ = some (.int .i64 st0) := keepc hb' c13_a0_1
    clear c13_a0_1 ac13_a0_1
    have c14_a0_2 : w14.cell? ⟨w.heap.size, 2, none⟩ = some (.slice A0 n0 c0) := keepc hb' c13_a0_2
    clear c13_a0_2 ac13_a0_2
    have c14_a1_0 : w14.cell? ⟨(w.heap.size + 1), 0, none⟩ = some (.int .i64 st1) := keepc hb' c13_a1_0
    clear c13_a1_0 ac13_a1_0
    have c14_a1_1 : w14.cell? ⟨(w.heap.size + 1), 1, none⟩ = some (.slice A1 n1 c1) := keepc hb' c13_a1_1
    clear c13_a1_1 ac13_a1_1
    have c14_a1_2 : w14.cell? ⟨(w.heap.size + 1), 2, none⟩ = some (.slice B1 m1 d1) := keepc hb' c13_a1_2
    clear c13_a1_2 ac13_a1_2
    have c14_o33_0 : w14.cell? ⟨g17, 0, none⟩ = some (.int .i64 RR.1.1) := keepc hb' c13_o33_0
    clear c13_o33_0 ac13_o33_0
    have c14_o33_1 : w14.cell? ⟨g17, 1, none⟩ = some (.slice A11 n12 c13) := keepc hb' c13_o33_1
    clear c13_o33_1 ac13_o33_1
    have c14_o33_2 : w14.cell? ⟨g17, 2, none⟩ = some (.slice B14 m15 d16) := keepc hb' c13_o33_2
    clear c13_o33_2 ac13_o33_2
    have c14_o35_0 : w14.cell? ⟨w4.heap.size, 0, none⟩ = some (.int .i64 sy0) := keepc hb' c13_o35_0
    clear c13_o35_0 ac13_o35_0
    have c14_o35_1 : w14.cell? ⟨w4.heap.size, 1, none⟩ = some (.int .i64 st0) := keepc hb' c13_o35_1
    clear c13_o35_1 ac13_o35_1
    have c14_o35_2 : w14.cell? ⟨w4.heap.size, 2, none⟩ = some (.slice (some ⟨g034, 0, none⟩) n0 n0) := keepc hb' c13_o35_2
    clear c13_o35_2 ac13_o35_2
    have c14_o38_0 : w14.cell? ⟨w5.heap.size, 0, none⟩ = some (.int .i64 st1) := keepc hb' c13_o38_0
    clear c13_o38_0 ac13_o38_0
    have c14_o38_1 : w14.cell? ⟨w5.heap.size, 1, none⟩ = some (.slice (some ⟨g036, 0, none⟩) n1 n1) := keepc hb' c13_o38_1
    clear c13_o38_1 ac13_o38_1
    have c14_o38_2 : w14.cell? ⟨w5.heap.size, 2, none⟩ = some (.slice (some ⟨g137, 0, none⟩) m1 m1) := keepc hb' c13_o38_2
    clear c13_o38_2 ac13_o38_2
    have c14_o47_0 : w14.cell? ⟨w6.heap.size, 0, none⟩ = some (.int .i64 RR.1.1) := keepc hb' c13_o47_0
    clear c13_o47_0 ac13_o47_0
    have c14_o47_1 : w14.cell? ⟨w6.heap.size, 1, none⟩ = some (.slice A39 n40 c41) := keepc hb' c13_o47_1
    clear c13_o47_1 ac13_o47_1
    have c14_o47_2 : w14.cell? ⟨w6.heap.size, 2, none⟩ = some (.slice B42 m43 d44) := keepc hb' c13_o47_2
    clear c13_o47_2 ac13_o47_2
    have ac14_a0_0 := fun o => keepa o c14_a0_0
    have ac14_a0_1 := fun o => keepa o c14_a0_1
    have ac14_a0_2 := fun o => keepa o c14_a0_2
    have ac14_a1_0 := fun o => keepa o c14_a1_0
    have ac14_a1_1 := fun o => keepa o c14_a1_1
    have ac14_a1_2 := fun o => keepa o c14_a1_2
    have ac14_o33_0 := fun o => keepa o c14_o33_0
    have ac14_o33_1 := fun o => keepa o c14_o33_1
    have ac14_o33_2 := fun o => keepa o c14_o33_2
    have ac14_o35_0 := fun o => keepa o c14_o35_0
    have ac14_o35_1 := fun o => keepa o c14_o35_1
    have ac14_o35_2 := fun o => keepa o c14_o35_2
    have ac14_o38_0 := fun o => keepa o c14_o38_0
    have ac14_o38_1 := fun o => keepa o c14_o38_1
    have ac14_o38_2 := fun o => keepa o c14_o38_2
    have ac14_o47_0 := fun o => keepa o c14_o47_0
    have ac14_o47_1 := fun o => keepa o c14_o47_1
    have ac14_o47_2 := fun o => keepa o c14_o47_2
    have rP0 := P0.out.below hb'; clear P0; have P0 := Lib.hid rP0; clear rP0
    have rP1 := P1.out.below hb'; clear P1; have P1 := Lib.hid rP1; clear rP1
    have rFo33 := Fo33.out.below hb'; clear Fo33; have Fo33 := Lib.hid rFo33; clear rFo33
    have rFo35 := Fo35.out.below hb'; clear Fo35; have Fo35 := Lib.hid rFo35; clear rFo35
    have rFo38 := Fo38.out.below hb'; clear Fo38; have Fo38 := Lib.hid rFo38; clear rFo38
    have rFo47 := Fo47.out.below hb'; clear Fo47; have Fo47 := Lib.hid rFo47; clear rFo47
    have rB := below_chain B.out (by omega) hb'; clear B; have B := Lib.hid rB; clear rB
    clear hb hb'
    go_wp2_with fail
    refine (markConfig_c _ _ _ _ _ _ _ _ _ _ _ _ _ (by exact (Fo47.out)) (by omega) (by omega) (by first | omega | (simp; omega)) (by omega) (by omega)).mono ?_
    rintro e w15 ⟨rfl, q15, hk⟩
    have hk' : KeepR (w5.heap.size + 1) w6.heap.size w14 w15 := (by first | (with_reducible exact hk) | (with_reducible exact hk.up1) | (with_reducible exact hk.up1.up1))
    have z15 := hk'.size
    have c15_a0_0 : w15.cell? ⟨w.heap.size, 0, none⟩ = some (.int .i64 sy0) := hk'.cell (by simp <;> omega) c14_a0_0
    clear c14_a0_0 ac14_a0_0
    have c15_a0_1 : w15.cell? ⟨w.heap.size, 1, none⟩ = some (.int .i64 st0) := hk'.cell (by simp <;> omega) c14_a0_1
    clear c14_a0_1 ac14_a0_1
    have c15_a0_2 : w15.cell? ⟨w.heap.size, 2, none⟩ = some (.slice A0 n0 c0) := hk'.cell (by simp <;> omega) c14_a0_2
    clear c14_a0_2 ac14_a0_2
    have c15_a1_0 : w15.cell? ⟨(w.heap.size + 1), 0, none⟩ = some (.int .i64 st1) := hk'.cell (by simp <;> omega) c14_a1_0
    clear c14_a1_0 ac14_a1_0
    have c15_a1_1 : w15.cell? ⟨(w.heap.size + 1), 1, none⟩ = some (.slice A1 n1 c1) := hk'.cell (by simp <;> omega) c14_a1_1
    clear c14_a1_1 ac14_a1_1
    have c15_a1_2 : w15.cell? ⟨(w.heap.size + 1), 2, none⟩ = some (.slice B1 m1 d1) := hk'.cell (by simp <;> omega) c14_a1_2
    clear c14_a1_2 ac14_a1_2
    have c15_o33_0 : w15.cell? ⟨g17, 0, none⟩ = some (.int .i64 RR.1.1) := hk'.cell (by simp <;> omega) c14_o33_0
    clear c14_o33_0 ac14_o33_0
    have c15_o33_1 : w15.cell? ⟨g17, 1, none⟩ = some (.slice A11 n12 c13) := hk'.cell (by simp <;> omega) c14_o33_1
    clear c14_o33_1 ac14_o33_1
    have c15_o33_2 : w15.cell? ⟨g17, 2, none⟩ = some (.slice B14 m15 d16) := hk'.cell (by simp <;> omega) c14_o33_2
    clear c14_o33_2 ac14_o33_2
    have c15_o35_0 : w15.cell? ⟨w4.heap.size, 0, none⟩ = some (.int .i64 sy0) := hk'.cell (by simp <;> omega) c14_o35_0
    clear c14_o35_0 ac14_o35_0
    have c15_o35_1 : w15.cell? ⟨w4.heap.size, 1, none⟩ = some (.int .i64 st0) := hk'.cell (by simp <;> omega) c14_o35_1
    clear c14_o35_1 ac14_o35_1
    have c15_o35_2 : w15.cell? ⟨w4.heap.size, 2, none⟩ = some (.slice (some ⟨g034, 0, none⟩) n0 n0) := hk'.cell (by simp <;> omega) c14_o35_2
    clear c14_o35_2 ac14_o35_2
    have c15_o38_0 : w15.cell? ⟨w5.heap.size, 0, none⟩ = some (.int .i64 st1) := hk'.cell (by simp <;> omega) c14_o38_0
    clear c14_o38_0 ac14_o38_0
    have c15_o38_1 : w15.cell? ⟨w5.heap.size, 1, none⟩ = some (.slice (some ⟨g036, 0, none⟩) n1 n1) := hk'.cell (by simp <;> omega) c14_o38_1
    clear c14_o38_1 ac14_o38_1
    have c15_o38_2 : w15.cell? ⟨w5.heap.size, 2, none⟩ = some (.slice (some ⟨g137, 0, none⟩) m1 m1) := hk'.cell (by simp <;> omega) c14_o38_2
    clear c14_o38_2 ac14_o38_2
    have c15_o47_0 : w15.cell? ⟨w6.heap.size, 0, none⟩ = some (.int .i64 RR.1.1) := hk'.cell (by simp <;> omega) c14_o47_0
    clear c14_o47_0 ac14_o47_0
    have c15_o47_1 : w15.cell? ⟨w6.heap.size, 1, none⟩ = some (.slice A39 n40 c41) := hk'.cell (by simp <;> omega) c14_o47_1
    clear c14_o47_1 ac14_o47_1
    have c15_o47_2 : w15.cell? ⟨w6.heap.size, 2, none⟩ = some (.slice B42 m43 d44) := hk'.cell (by simp <;> omega) c14_o47_2
    clear c14_o47_2 ac14_o47_2
    have ac15_a0_0 := fun o => keepa o c15_a0_0
    have ac15_a0_1 := fun o => keepa o c15_a0_1
    have ac15_a0_2 := fun o => keepa o c15_a0_2
    have ac15_a1_0 := fun o => keepa o c15_a1_0
    have ac15_a1_1 := fun o => keepa o c15_a1_1
    have ac15_a1_2 := fun o => keepa o c15_a1_2
    have ac15_o33_0 := fun o => keepa o c15_o33_0
    have ac15_o33_1 := fun o => keepa o c15_o33_1
    have ac15_o33_2 := fun o => keepa o c15_o33_2
    have ac15_o35_0 := fun o => keepa o c15_o35_0
    have ac15_o35_1 := fun o => keepa o c15_o35_1
    have ac15_o35_2 := fun o => keepa o c15_o35_2
    have ac15_o38_0 := fun o => keepa o c15_o38_0
    have ac15_o38_1 := fun o => keepa o c15_o38_1
    have ac15_o38_2 := fun o => keepa o c15_o38_2
    have ac15_o47_0 := fun o => keepa o c15_o47_0
    have ac15_o47_1 := fun o => keepa o c15_o47_1
    have ac15_o47_2 := fun o => keepa o c15_o47_2
    have rP0 := P0.out.keep hk' (by omega); clear P0; have P0 := Lib.hid rP0; clear rP0
    have rP1 := P1.out.keep hk' (by omega); clear P1; have P1 := Lib.hid rP1; clear rP1
    have rFo33 := Fo33.out.keep hk' (by omega); clear Fo33; have Fo33 := Lib.hid rFo33; clear rFo33
    have rFo35 := Fo35.out.keep hk' (by omega); clear Fo35; have Fo35 := Lib.hid rFo35; clear rFo35
    have rFo38 := Fo38.out.keep hk' (by omega); clear Fo38; have Fo38 := Lib.hid rFo38; clear rFo38
    have rFo47 := q15; clear Fo47; have Fo47 := Lib.hid rFo47; clear rFo47 q15
    have rB := B.out.trans (hk'.below (B := w.heap.size) (by omega) (by omega)); clear B; have B := Lib.hid rB; clear rB
    clear hk hk'
    go_wp2_with fail
    refine (heldConfig_c _ _ _ _ _ _ _ _ _ _ _ (by exact (Fo47.out.rd)) (by omega) (by omega) (by omega) (by omega)).mono ?_
    rintro e w16 ⟨rfl, hb⟩
    have hb' : Below w15.heap.size w15 w16 := (by first | (with_reducible exact hb) | (with_reducible exact up1 hb) | (with_reducible exact up2 hb) | (with_reducible exact up3 hb) | (with_reducible exact up4 hb) | (with_reducible exact below_of_drew hb) | (with_reducible exact below_of_drew (up1 hb)))
    have z16 := hb'.size
    have c16_a0_0 : w16.cell? ⟨w.heap.size, 0, none⟩ = some (.int .i64 sy0) := keepc hb' c15_a0_0
    clear c15_a0_0 ac15_a0_0
    have c16_a0_1 : w16.cell? ⟨w.heap.size, 1, none⟩ = some (.int .i64 st0) := keepc hb' c15_a0_1
    clear c15_a0_1 ac15_a0_1
    have c16_a0_2 : w16.cell? ⟨w.heap.size, 2, none⟩ = some (.slice A0 n0 c0) := keepc hb' c15_a0_2
    clear c15_a0_2 ac15_a0_2
    have c16_a1_0 : w16.cell? ⟨(w.heap.size + 1), 0, none⟩ = some (.int .i64 st1) := keepc hb' c15_a1_0
    clear c15_a1_0 ac15_a1_0
    have c16_a1_1 : w16.cell? ⟨(w.heap.size + 1), 1, none⟩ = some (.slice A1 n1 c1) := keepc hb' c15_a1_1
    clear c15_a1_1 ac15_a1_1
    have c16_a1_2 : w16.cell? ⟨(w.heap.size + 1), 2, none⟩ = some (.slice B1 m1 d1) := keepc hb' c15_a1_2
    clear c15_a1_2 ac15_a1_2
    have c16_o33_0 : w16.cell? ⟨g17, 0, none⟩ = some (.int .i64 RR.1.1) := keepc hb' c15_o33_0
    clear c15_o33_0 ac15_o33_0
    have c16_o33_1 : w16.cell? ⟨g17, 1, none⟩ = some (.slice A11 n12 c13) := keepc hb' c15_o33_1
    clear c15_o33_1 ac15_o33_1
    have c16_o33_2 : w16.cell? ⟨g17, 2, none⟩ = some (.slice B14 m15 d16) := keepc hb' c15_o33_2
    clear c15_o33_2 ac15_o33_2
    have c16_o35_0 : w16.cell? ⟨w4.heap.size, 0, none⟩ = some (.int .i64 sy0) := keepc hb' c15_o35_0
    clear c15_o35_0 ac15_o35_0
    have c16_o35_1 : w16.cell? ⟨w4.heap.size, 1, none⟩ = some (.int .i64 st0) := keepc hb' c15_o35_1
    clear c15_o35_1 ac15_o35_1
    have c16_o35_2 : w16.cell? ⟨w4.heap.size, 2, none⟩ = some (.slice (some ⟨g034, 0, none⟩) n0 n0) := keepc hb' c15_o35_2
    clear c15_o35_2 ac15_o35_2
    have c16_o38_0 : w16.cell? ⟨w5.heap.size, 0, none⟩ = some (.int .i64 st1) := keepc hb' c15_o38_0
    clear c15_o38_0 ac15_o38_0
    have c16_o38_1 : w16.cell? ⟨w5.heap.size, 1, none⟩ = some (.slice (some ⟨g036, 0, none⟩) n1 n1) := keepc hb' c15_o38_1
    clear c15_o38_1 ac15_o38_1
    have c16_o38_2 : w16.cell? ⟨w5.heap.size, 2, none⟩ = some (.slice (some ⟨g137, 0, none⟩) m1 m1) := keepc hb' c15_o38_2
    clear c15_o38_2 ac15_o38_2
    have c16_o47_0 : w16.cell? ⟨w6.heap.size, 0, none⟩ = some (.int .i64 RR.1.1) := keepc hb' c15_o47_0
    clear c15_o47_0 ac15_o47_0
    have c16_o47_1 : w16.cell? ⟨w6.heap.size, 1, none⟩ = some (.slice A39 n40 c41) := keepc hb' c15_o47_1
    clear c15_o47_1 ac15_o47_1
    have c16_o47_2 : w16.cell? ⟨w6.heap.size, 2, none⟩ = some (.slice B42 m43 d44) := keepc hb' c15_o47_2
    clear c15_o47_2 ac15_o47_2
    have ac16_a0_0 := fun o => keepa o c16_a0_0
    have ac16_a0_1 := fun o => keepa o c16_a0_1
    have ac16_a0_2 := fun o => keepa o c16_a0_2
    have ac16_a1_0 := fun o => keepa o c16_a1_0
    have ac16_a1_1 := fun o => keepa o c16_a1_1
    have ac16_a1_2 := fun o => keepa o c16_a1_2
    have ac16_o33_0 := fun o => keepa o c16_o33_0
    have ac16_o33_1 := fun o => keepa o c16_o33_1
    have ac16_o33_2 := fun o => keepa o c16_o33_2
    have ac16_o35_0 := fun o => keepa o c16_o35_0
    have ac16_o35_1 := fun o => keepa o c16_o35_1
    have ac16_o35_2 := fun o => keepa o c16_o35_2
    have ac16_o38_0 := fun o => keepa o c16_o38_0
    have ac16_o38_1 := fun o => keepa o c16_o38_1
    have ac16_o38_2 := fun o => keepa o c16_o38_2
    have ac16_o47_0 := fun o => keepa o c16_o47_0
    have ac16_o47_1 := fun o => keepa o c16_o47_1
    have ac16_o47_2 := fun o => keepa o c16_o47_2
    have rP0 := P0.out.below hb'; clear P0; have P0 := Lib.hid rP0; clear rP0
    have rP1 := P1.out.below hb'; clear P1; have P1 := Lib.hid rP1; clear rP1
    have rFo33 := Fo33.out.below hb'; clear Fo33; have Fo33 := Lib.hid rFo33; clear rFo33
    have rFo35 := Fo35.out.below hb'; clear Fo35; have Fo35 := Lib.hid rFo35; clear rFo35
    have rFo38 := Fo38.out.below hb'; clear Fo38; have Fo38 := Lib.hid rFo38; clear rFo38
    have rFo47 := Fo47.out.below hb'; clear Fo47; have Fo47 := Lib.hid rFo47; clear rFo47
    have rB := below_chain B.out (by omega) hb'; clear B; have B := Lib.hid rB; clear rB
    clear hb hb'
    go_wp2_with fail
    go_cut [21, 22, 23, 24] (fun v0 v1 v2 v3 wx => ∃ (g59 : Nat) (A53 : Option Addr) (n54 : Nat) (c55 : Nat) (B56 : Option Addr) (m57 : Nat) (d58 : Nat), v0 = .pointer (some ⟨g59, 0, none⟩) ∧ v1 = .int .i64 RR.2.1 ∧ v2 = .bool RR.2.2.1 ∧ v3 = .int .i64 RR.2.2.2 ∧ wx.cell? ⟨g59, 0, none⟩ = some (.int .i64 RR.1.1) ∧ wx.cell? ⟨g59, 1, none⟩ = some (.slice A53 n54 c55) ∧ wx.cell? ⟨g59, 2, none⟩ = some (.slice B56 m57 d58) ∧ WrS wx w16.heap.size wx.heap.size ([sgI A53 n54 (RR.1.2).1] ++ [sgI B56 m57 (RR.1.2).2]) ∧ (n54 ≤ 1000000 ∧ m57 ≤ 1000000) ∧ w16.heap.size ≤ g59 ∧ Below w16.heap.size w16 wx)
    case first =>
      have fx_c16_a0_0 := Ext.cell c16_a0_0
      have fx_c16_a0_1 := Ext.cell c16_a0_1
      have fx_c16_a0_2 := Ext.cell c16_a0_2
      have fx_c16_a1_0 := Ext.cell c16_a1_0
      have fx_c16_a1_1 := Ext.cell c16_a1_1
      have fx_c16_a1_2 := Ext.cell c16_a1_2
      have fx_c16_o33_0 := Ext.cell c16_o33_0
      have fx_c16_o33_1 := Ext.cell c16_o33_1
      have fx_c16_o33_2 := Ext.cell c16_o33_2
      have fx_c16_o35_0 := Ext.cell c16_o35_0
      have fx_c16_o35_1 := Ext.cell c16_o35_1
      have fx_c16_o35_2 := Ext.cell c16_o35_2
      have fx_c16_o38_0 := Ext.cell c16_o38_0
      have fx_c16_o38_1 := Ext.cell c16_o38_1
      have fx_c16_o38_2 := Ext.cell c16_o38_2
      have fx_c16_o47_0 := Ext.cell c16_o47_0
      have fx_c16_o47_1 := Ext.cell c16_o47_1
      have fx_c16_o47_2 := Ext.cell c16_o47_2
      refine Mix.wp_region_mixF 11 [3, 1, 3, 1, 0, 1, 0, 0, 0, 0, 0, 1, 2, 0, 0, 0] (fun w' => ∃ x : Ext w16, w' = x.w) (by kernel_rfl) (by kernel_rfl) (InExt.drew _) _ _ (by rfl) ?_
      simp only [List.take_succ_cons, List.take_zero, List.drop_succ_cons, List.drop_zero]
      have e0 : Below w16.heap.size w16 w16.drew := InExt.out (InExt.drew _)
      refine Mix.wpF_3 ?_
      (refine Mix.wpMix_read (by rfl) ?_; go_big_quiet_step (fail); refine wpQuiet_nil ?_)
      refine Mix.wpMix_nil ?_
      refine Mix.wpF_1 ?_ ?_
      · simp only [List.cons_append, List.nil_append]
        have e0p := e0
        refine Mix.wpMix_chg (by rfl) (fun K hK => ?_)
        go_wp2_with fail
        refine hK _ _ ⟨⟨_, e0.alloc e0.size _⟩, rfl⟩ ?_
        clear hK K
        have bk : Blk (w16.drew.alloc (.cells #[.int .i64 0, .slice none 0 0, .slice none 0 0] 30)) w16.heap.size 30 #[.int .i64 0, .slice none 0 0, .slice none 0 0] := Blk.new _ _ _
        have e0 := e0.alloc e0.size (.cells #[.int .i64 0, .slice none 0 0, .slice none 0 0] 30)
        refine Mix.wpMix_chg (by rfl) (fun K hK => ?_)
        go_wp2_with fail
        refine (toMachine_c _ _ _ _ _ _ _ (by exact ((P0.out.rd).below e0)) (by omega)).mono ?_
        rintro e ua11 ⟨g062, rfl, q63, hb⟩
        try simp only [World.size_alloc] at q63
        have e0 := below_chain e0 e0.size hb
        have bk := bk.keep hb
        have e_q63 : Below ua11.heap.size ua11 ua11 := below_size
        have zua11 : w16.heap.size + 1 ≤ ua11.heap.size := by first | exact hb.size | exact Nat.le_trans (Nat.le_of_eq (World.size_alloc ..).symm) hb.size
        clear hb
        go_wp2_with fail
        refine hK _ _ ⟨⟨_, e0⟩, rfl⟩ ?_
        clear hK K
        (refine Mix.wpMix_read (by rfl) ?_; go_big_quiet_step (fail); refine wpQuiet_nil ?_)
        refine Mix.wpMix_chg (by rfl) (fun K hK => ?_)
        go_wp2_with fail
        refine (toConfig_c _ _ _ _ _ _ _ _ _ _ (by exact ((P1.out.rd).below e0)) (by omega) (by omega)).mono ?_
        rintro e ua13 ⟨g064, g165, rfl, q66, hb⟩
        try simp only [World.size_alloc] at q66
        have e_q63 := below_chain e_q63 e_q63.size hb
        have e0 := below_chain e0 e0.size hb
        have bk := bk.keep hb
        have e_q66 : Below ua13.heap.size ua13 ua13 := below_size
        have zua13 : ua11.heap.size ≤ ua13.heap.size := by first | exact hb.size | exact Nat.le_trans (Nat.le_of_eq (World.size_alloc ..).symm) hb.size
        clear hb
        go_wp2_with fail
        refine hK _ _ ⟨⟨_, e0⟩, rfl⟩ ?_
        clear hK K
        (refine Mix.wpMix_pure (by rfl) ?_; go_big_quiet_step (fail); refine wpQuiet_nil ?_)
        refine Mix.wpMix_chg (by rfl) (fun K hK => ?_)
        go_wp2_with fail
        refine (iRunByRewrites_c _ _ _ _ _ _ _ _ _ _ _ _ _ _ _ _ _ (by exact (q63.below e_q63).rd) (by exact (q66.below e_q66).rd) (by omega) (by omega) (by omega) HRR.out).mono ?_
        rintro e ua15 ⟨A53, n54, c55, B56, m57, d58, rfl, q60, l61, hb⟩
        have e_q63 := below_chain e_q63 e_q63.size hb
        have e_q66 := below_chain e_q66 e_q66.size hb
        have e0 := below_chain e0 e0.size hb
        have bk := bk.keep hb
        have e_q60 : Below ua15.heap.size ua15 ua15 := below_size
        have zua15 : ua13.heap.size ≤ ua15.heap.size := by first | exact hb.size | exact Nat.le_trans (Nat.le_of_eq (World.size_alloc ..).symm) hb.size
        have q60 : WrS ua15 (ua13.heap.size) ua15.heap.size ([sgI A53 n54 (RR.1.2).1] ++ [sgI B56 m57 (RR.1.2).2]) := by first | exact q60.wider (Nat.le_refl _) (Nat.le_refl _) | exact q60.wider (Nat.le_of_eq (World.size_alloc ..).symm) (Nat.le_refl _)
        clear hb
        go_wp2_with fail
        refine hK _ _ ⟨⟨_, e0⟩, rfl⟩ ?_
        clear hK K
        (refine Mix.wpMix_pure (by rfl) ?_; go_big_quiet_step (fail); refine wpQuiet_nil ?_)
        (refine Mix.wpMix_pure (by rfl) ?_; go_big_quiet_step (fail); refine wpQuiet_nil ?_)
        (refine Mix.wpMix_pure (by rfl) ?_; go_big_quiet_step (fail); refine wpQuiet_nil ?_)
        (refine Mix.wpMix_pure (by rfl) ?_; go_big_quiet_step (fail); refine wpQuiet_nil ?_)
        (refine Mix.wpMix_pure (by rfl) ?_; go_big_quiet_step (fail); refine wpQuiet_nil ?_)
        repeat (first | (refine Mix.wpMix_read (by rfl) ?_; go_big_quiet_step (fail); refine wpQuiet_nil ?_) | (refine Mix.wpMix_pure (by rfl) ?_; go_big_quiet_step (fail); refine wpQuiet_nil ?_))
        have d0 := bk.cell 0; have f0 := bk.frozen 0
        simp at d0
        have d1 := bk.cell 1; have f1 := bk.frozen 1
        simp at d1
        have d2 := bk.cell 2; have f2 := bk.frozen 2
        simp at d2
        refine Mix.wpMix_tail (by rfl) (fun K hK => ?_)
        go_wp2_with fail
        refine hK _ _ ?_
        clear hK K
        repeat (first | (refine Mix.wpMix_read (by rfl) ?_; go_big_quiet_step (fail); refine wpQuiet_nil ?_) | (refine Mix.wpMix_pure (by rfl) ?_; go_big_quiet_step (fail); refine wpQuiet_nil ?_))
        (refine Mix.wpMix_nil ?_; try simp only [Exit.then])
        go_wp2_with fail
        go_meet
        have bk2 := (((bk.set_ 0 (.int .i64 RR.1.1)).set_ 1 (.slice A53 n54 c55)).set_ 2 (.slice B56 m57 d58))
        refine ⟨w16.heap.size, A53, n54, c55, B56, m57, d58, rfl, rfl, rfl, rfl, (by have := bk2.cell 0; first | exact this | (simp; done) | simpa using this), (by have := bk2.cell 1; first | exact this | (simp; done) | simpa using this), (by have := bk2.cell 2; first | exact this | (simp; done) | simpa using this), ?_, l61, ?_, ?_⟩
        · first | exact (q60.alloc _).wider (by first | omega | exact Nat.le_refl _ | (simp; done) | (simp; omega)) (by first | omega | exact Nat.le_refl _ | (simp; done) | (simp; omega)) | exact (((q60.set_far (.inl (by first | omega | exact Nat.le_refl _ | (simp; done) | (simp; omega))) _).set_far (.inl (by first | omega | exact Nat.le_refl _ | (simp; done) | (simp; omega))) _).set_far (.inl (by first | omega | exact Nat.le_refl _ | (simp; done) | (simp; omega))) _).wider (by first | omega | exact Nat.le_refl _ | (simp; done) | (simp; omega)) (by first | omega | exact Nat.le_refl _ | (simp; done) | (simp; omega))
        · exact (by first | omega | exact Nat.le_refl _ | (simp; done) | (simp; omega))
        · first | exact (by have hzz := (e0).size; repeat' (first | (with_reducible exact e0) | (with_reducible refine Below.alloc ?_ ?_ _) | (with_reducible refine Below.setCell ?_ ?_ _) | (with_reducible refine below_drew ?_) | omega | (simp; done) | (simp; omega))) | exact (by have hzz := (e0p).size; repeat' (first | (with_reducible exact e0p) | (with_reducible refine Below.alloc ?_ ?_ _) | (with_reducible refine Below.setCell ?_ ?_ _) | (with_reducible refine below_drew ?_) | omega | (simp; done) | (simp; omega)))
      refine Mix.wpMix_chg (by rfl) (fun K hK => ?_)
      go_wp2_with fail
      refine (toMachine_c _ _ _ _ _ _ _ (by exact ((P0.out.rd).below e0)) (by omega)).mono ?_
      rintro e u1 ⟨g067, rfl, q68, hb⟩
      try simp only [World.size_alloc] at q68
      have e0 := below_chain e0 e0.size hb
      have e_q68 : Below u1.heap.size u1 u1 := below_size
      have zu1 : w16.heap.size ≤ u1.heap.size := by first | exact hb.size | exact Nat.le_trans (Nat.le_of_eq (World.size_alloc ..).symm) hb.size
      clear hb
      go_wp2_with fail
      refine hK _ _ ⟨⟨_, e0⟩, rfl⟩ ?_
      clear hK K
      refine Mix.wpMix_nil ?_
      refine Mix.wpF_3 ?_
      (refine Mix.wpMix_read (by rfl) ?_; go_big_quiet_step (fail); refine wpQuiet_nil ?_)
      refine Mix.wpMix_nil ?_
      refine Mix.wpF_1 ?_ ?_
      · simp only [List.cons_append, List.nil_append]
        have e0p := e0
        refine Mix.wpMix_chg (by rfl) (fun K hK => ?_)
        go_wp2_with fail
        refine hK _ _ ⟨⟨_, e0.alloc e0.size _⟩, rfl⟩ ?_
        clear hK K
        have e_q68 := e_q68.alloc e_q68.size (.cells #[.int .i64 0, .slice none 0 0, .slice none 0 0] 30)
        have bk : Blk (u1.alloc (.cells #[.int .i64 0, .slice none 0 0, .slice none 0 0] 30)) u1.heap.size 30 #[.int .i64 0, .slice none 0 0, .slice none 0 0] := Blk.new _ _ _
        have e0 := e0.alloc e0.size (.cells #[.int .i64 0, .slice none 0 0, .slice none 0 0] 30)
        refine Mix.wpMix_chg (by rfl) (fun K hK => ?_)
        go_wp2_with fail
        refine (toConfig_c _ _ _ _ _ _ _ _ _ _ (by exact ((P1.out.rd).below e0)) (by omega) (by omega)).mono ?_
        rintro e ua33 ⟨g069, g170, rfl, q71, hb⟩
        try simp only [World.size_alloc] at q71
        have e_q68 := below_chain e_q68 e_q68.size hb
        have e0 := below_chain e0 e0.size hb
        have bk := bk.keep hb
        have e_q71 : Below ua33.heap.size ua33 ua33 := below_size
        have zua33 : u1.heap.size + 1 ≤ ua33.heap.size := by first | exact hb.size | exact Nat.le_trans (Nat.le_of_eq (World.size_alloc ..).symm) hb.size
        clear hb
        go_wp2_with fail
        refine hK _ _ ⟨⟨_, e0⟩, rfl⟩ ?_
        clear hK K
        (refine Mix.wpMix_pure (by rfl) ?_; go_big_quiet_step (fail); refine wpQuiet_nil ?_)
        refine Mix.wpMix_chg (by rfl) (fun K hK => ?_)
        go_wp2_with fail
        refine (iRunByRewrites_c _ _ _ _ _ _ _ _ _ _ _ _ _ _ _ _ _ (by exact (q68.below e_q68).rd) (by exact (q71.below e_q71).rd) (by omega) (by omega) (by omega) HRR.out).mono ?_
        rintro e ua35 ⟨A53, n54, c55, B56, m57, d58, rfl, q60, l61, hb⟩
        have e_q68 := below_chain e_q68 e_q68.size hb
        have e_q71 := below_chain e_q71 e_q71.size hb
        have e0 := below_chain e0 e0.size hb
        have bk := bk.keep hb
        have e_q60 : Below ua35.heap.size ua35 ua35 := below_size
        have zua35 : ua33.heap.size ≤ ua35.heap.size := by first | exact hb.size | exact Nat.le_trans (Nat.le_of_eq (World.size_alloc ..).symm) hb.size
        have q60 : WrS ua35 (ua33.heap.size) ua35.heap.size ([sgI A53 n54 (RR.1.2).1] ++ [sgI B56 m57 (RR.1.2).2]) := by first | exact q60.wider (Nat.le_refl _) (Nat.le_refl _) | exact q60.wider (Nat.le_of_eq (World.size_alloc ..).symm) (Nat.le_refl _)
        clear hb
        go_wp2_with fail
        refine hK _ _ ⟨⟨_, e0⟩, rfl⟩ ?_
        clear hK K
        (refine Mix.wpMix_pure (by rfl) ?_; go_big_quiet_step (fail); refine wpQuiet_nil ?_)
        (refine Mix.wpMix_pure (by rfl) ?_; go_big_quiet_step (fail); refine wpQuiet_nil ?_)
        (refine Mix.wpMix_pure (by rfl) ?_; go_big_quiet_step (fail); refine wpQuiet_nil ?_)
        (refine Mix.wpMix_pure (by rfl) ?_; go_big_quiet_step (fail); refine wpQuiet_nil ?_)
        (refine Mix.wpMix_pure (by rfl) ?_; go_big_quiet_step (fail); refine wpQuiet_nil ?_)
        repeat (first | (refine Mix.wpMix_read (by rfl) ?_; go_big_quiet_step (fail); refine wpQuiet_nil ?_) | (refine Mix.wpMix_pure (by rfl) ?_; go_big_quiet_step (fail); refine wpQuiet_nil ?_))
        have d0 := bk.cell 0; have f0 := bk.frozen 0
        simp at d0
        have d1 := bk.cell 1; have f1 := bk.frozen 1
        simp at d1
        have d2 := bk.cell 2; have f2 := bk.frozen 2
        simp at d2
        refine Mix.wpMix_tail (by rfl) (fun K hK => ?_)
        go_wp2_with fail
        refine hK _ _ ?_
        clear hK K
        repeat (first | (refine Mix.wpMix_read (by rfl) ?_; go_big_quiet_step (fail); refine wpQuiet_nil ?_) | (refine Mix.wpMix_pure (by rfl) ?_; go_big_quiet_step (fail); refine wpQuiet_nil ?_))
        (refine Mix.wpMix_nil ?_; try simp only [Exit.then])
        go_wp2_with fail
        go_meet
        have bk2 := (((bk.set_ 0 (.int .i64 RR.1.1)).set_ 1 (.slice A53 n54 c55)).set_ 2 (.slice B56 m57 d58))
        refine ⟨u1.heap.size, A53, n54, c55, B56, m57, d58, rfl, rfl, rfl, rfl, (by have := bk2.cell 0; first | exact this | (simp; done) | simpa using this), (by have := bk2.cell 1; first | exact this | (simp; done) | simpa using this), (by have := bk2.cell 2; first | exact this | (simp; done) | simpa using this), ?_, l61, ?_, ?_⟩
        · first | exact (q60.alloc _).wider (by first | omega | exact Nat.le_refl _ | (simp; done) | (simp; omega)) (by first | omega | exact Nat.le_refl _ | (simp; done) | (simp; omega)) | exact (((q60.set_far (.inl (by first | omega | exact Nat.le_refl _ | (simp; done) | (simp; omega))) _).set_far (.inl (by first | omega | exact Nat.le_refl _ | (simp; done) | (simp; omega))) _).set_far (.inl (by first | omega | exact Nat.le_refl _ | (simp; done) | (simp; omega))) _).wider (by first | omega | exact Nat.le_refl _ | (simp; done) | (simp; omega)) (by first | omega | exact Nat.le_refl _ | (simp; done) | (simp; omega))
        · exact (by first | omega | exact Nat.le_refl _ | (simp; done) | (simp; omega))
        · first | exact (by have hzz := (e0).size; repeat' (first | (with_reducible exact e0) | (with_reducible refine Below.alloc ?_ ?_ _) | (with_reducible refine Below.setCell ?_ ?_ _) | (with_reducible refine below_drew ?_) | omega | (simp; done) | (simp; omega))) | exact (by have hzz := (e0p).size; repeat' (first | (with_reducible exact e0p) | (with_reducible refine Below.alloc ?_ ?_ _) | (with_reducible refine Below.setCell ?_ ?_ _) | (with_reducible refine below_drew ?_) | omega | (simp; done) | (simp; omega)))
      refine Mix.wpMix_chg (by rfl) (fun K hK => ?_)
      go_wp2_with fail
      refine (toConfig_c _ _ _ _ _ _ _ _ _ _ (by exact ((P1.out.rd).below e0)) (by omega) (by omega)).mono ?_
      rintro e u3 ⟨g072, g173, rfl, q74, hb⟩
      try simp only [World.size_alloc] at q74
      have e_q68 := below_chain e_q68 e_q68.size hb
      have e0 := below_chain e0 e0.size hb
      have e_q74 : Below u3.heap.size u3 u3 := below_size
      have zu3 : u1.heap.size ≤ u3.heap.size := by first | exact hb.size | exact Nat.le_trans (Nat.le_of_eq (World.size_alloc ..).symm) hb.size
      clear hb
      go_wp2_with fail
      refine hK _ _ ⟨⟨_, e0⟩, rfl⟩ ?_
      clear hK K
      refine Mix.wpMix_nil ?_
      refine Mix.wpF_0 ?_
      (refine Mix.wpMix_pure (by rfl) ?_; go_big_quiet_step (fail); refine wpQuiet_nil ?_)
      refine Mix.wpMix_nil ?_
      refine Mix.wpF_1 ?_ ?_
      · simp only [List.cons_append, List.nil_append]
        have e0p := e0
        refine Mix.wpMix_chg (by rfl) (fun K hK => ?_)
        go_wp2_with fail
        refine hK _ _ ⟨⟨_, e0.alloc e0.size _⟩, rfl⟩ ?_
        clear hK K
        have e_q68 := e_q68.alloc e_q68.size (.cells #[.int .i64 0, .slice none 0 0, .slice none 0 0] 30)
        have e_q74 := e_q74.alloc e_q74.size (.cells #[.int .i64 0, .slice none 0 0, .slice none 0 0] 30)
        have bk : Blk (u3.alloc (.cells #[.int .i64 0, .slice none 0 0, .slice none 0 0] 30)) u3.heap.size 30 #[.int .i64 0, .slice none 0 0, .slice none 0 0] := Blk.new _ _ _
        have e0 := e0.alloc e0.size (.cells #[.int .i64 0, .slice none 0 0, .slice none 0 0] 30)
        refine Mix.wpMix_chg (by rfl) (fun K hK => ?_)
        go_wp2_with fail
        refine (iRunByRewrites_c _ _ _ _ _ _ _ _ _ _ _ _ _ _ _ _ _ (by exact (q68.below e_q68).rd) (by exact (q74.below e_q74).rd) (by omega) (by omega) (by omega) HRR.out).mono ?_
        rintro e ua55 ⟨A53, n54, c55, B56, m57, d58, rfl, q60, l61, hb⟩
        have e_q68 := below_chain e_q68 e_q68.size hb
        have e_q74 := below_chain e_q74 e_q74.size hb
        have e0 := below_chain e0 e0.size hb
        have bk := bk.keep hb
        have e_q60 : Below ua55.heap.size ua55 ua55 := below_size
        have zua55 : u3.heap.size + 1 ≤ ua55.heap.size := by first | exact hb.size | exact Nat.le_trans (Nat.le_of_eq (World.size_alloc ..).symm) hb.size
        have q60 : WrS ua55 (u3.heap.size + 1) ua55.heap.size ([sgI A53 n54 (RR.1.2).1] ++ [sgI B56 m57 (RR.1.2).2]) := by first | exact q60.wider (Nat.le_refl _) (Nat.le_refl _) | exact q60.wider (Nat.le_of_eq (World.size_alloc ..).symm) (Nat.le_refl _)
        clear hb
        go_wp2_with fail
        refine hK _ _ ⟨⟨_, e0⟩, rfl⟩ ?_
        clear hK K
        (refine Mix.wpMix_pure (by rfl) ?_; go_big_quiet_step (fail); refine wpQuiet_nil ?_)
        (refine Mix.wpMix_pure (by rfl) ?_; go_big_quiet_step (fail); refine wpQuiet_nil ?_)
        (refine Mix.wpMix_pure (by rfl) ?_; go_big_quiet_step (fail); refine wpQuiet_nil ?_)
        (refine Mix.wpMix_pure (by rfl) ?_; go_big_quiet_step (fail); refine wpQuiet_nil ?_)
        (refine Mix.wpMix_pure (by rfl) ?_; go_big_quiet_step (fail); refine wpQuiet_nil ?_)
        repeat (first | (refine Mix.wpMix_read (by rfl) ?_; go_big_quiet_step (fail); refine wpQuiet_nil ?_) | (refine Mix.wpMix_pure (by rfl) ?_; go_big_quiet_step (fail); refine wpQuiet_nil ?_))
        have d0 := bk.cell 0; have f0 := bk.frozen 0
        simp at d0
        have d1 := bk.cell 1; have f1 := bk.frozen 1
        simp at d1
        have d2 := bk.cell 2; have f2 := bk.frozen 2
        simp at d2
        refine Mix.wpMix_tail (by rfl) (fun K hK => ?_)
        go_wp2_with fail
        refine hK _ _ ?_
        clear hK K
        repeat (first | (refine Mix.wpMix_read (by rfl) ?_; go_big_quiet_step (fail); refine wpQuiet_nil ?_) | (refine Mix.wpMix_pure (by rfl) ?_; go_big_quiet_step (fail); refine wpQuiet_nil ?_))
        (refine Mix.wpMix_nil ?_; try simp only [Exit.then])
        go_wp2_with fail
        go_meet
        have bk2 := (((bk.set_ 0 (.int .i64 RR.1.1)).set_ 1 (.slice A53 n54 c55)).set_ 2 (.slice B56 m57 d58))
        refine ⟨u3.heap.size, A53, n54, c55, B56, m57, d58, rfl, rfl, rfl, rfl, (by have := bk2.cell 0; first | exact this | (simp; done) | simpa using this), (by have := bk2.cell 1; first | exact this | (simp; done) | simpa using this), (by have := bk2.cell 2; first | exact this | (simp; done) | simpa using this), ?_, l61, ?_, ?_⟩
        · first | exact (q60.alloc _).wider (by first | omega | exact Nat.le_refl _ | (simp; done) | (simp; omega)) (by first | omega | exact Nat.le_refl _ | (simp; done) | (simp; omega)) | exact (((q60.set_far (.inl (by first | omega | exact Nat.le_refl _ | (simp; done) | (simp; omega))) _).set_far (.inl (by first | omega | exact Nat.le_refl _ | (simp; done) | (simp; omega))) _).set_far (.inl (by first | omega | exact Nat.le_refl _ | (simp; done) | (simp; omega))) _).wider (by first | omega | exact Nat.le_refl _ | (simp; done) | (simp; omega)) (by first | omega | exact Nat.le_refl _ | (simp; done) | (simp; omega))
        · exact (by first | omega | exact Nat.le_refl _ | (simp; done) | (simp; omega))
        · first | exact (by have hzz := (e0).size; repeat' (first | (with_reducible exact e0) | (with_reducible refine Below.alloc ?_ ?_ _) | (with_reducible refine Below.setCell ?_ ?_ _) | (with_reducible refine below_drew ?_) | omega | (simp; done) | (simp; omega))) | exact (by have hzz := (e0p).size; repeat' (first | (with_reducible exact e0p) | (with_reducible refine Below.alloc ?_ ?_ _) | (with_reducible refine Below.setCell ?_ ?_ _) | (with_reducible refine below_drew ?_) | omega | (simp; done) | (simp; omega)))
      refine Mix.wpMix_chg (by rfl) (fun K hK => ?_)
      go_wp2_with fail
      refine (iRunByRewrites_c _ _ _ _ _ _ _ _ _ _ _ _ _ _ _ _ _ (by exact (q68.below e_q68).rd) (by exact (q74.below e_q74).rd) (by omega) (by omega) (by omega) HRR.out).mono ?_
      rintro e u5 ⟨A53, n54, c55, B56, m57, d58, rfl, q60, l61, hb⟩
      have e_q68 := below_chain e_q68 e_q68.size hb
      have e_q74 := below_chain e_q74 e_q74.size hb
      have e0 := below_chain e0 e0.size hb
      have e_q60 : Below u5.heap.size u5 u5 := below_size
      have zu5 : u3.heap.size ≤ u5.heap.size := by first | exact hb.size | exact Nat.le_trans (Nat.le_of_eq (World.size_alloc ..).symm) hb.size
      have q60 : WrS u5 (u3.heap.size) u5.heap.size ([sgI A53 n54 (RR.1.2).1] ++ [sgI B56 m57 (RR.1.2).2]) := by first | exact q60.wider (Nat.le_refl _) (Nat.le_refl _) | exact q60.wider (Nat.le_of_eq (World.size_alloc ..).symm) (Nat.le_refl _)
      clear hb
      go_wp2_with fail
      refine hK _ _ ⟨⟨_, e0⟩, rfl⟩ ?_
      clear hK K
      refine Mix.wpMix_nil ?_
      refine Mix.wpF_0 ?_
      (refine Mix.wpMix_pure (by rfl) ?_; go_big_quiet_step (fail); refine wpQuiet_nil ?_)
      refine Mix.wpMix_nil ?_
      refine Mix.wpF_0 ?_
      (refine Mix.wpMix_pure (by rfl) ?_; go_big_quiet_step (fail); refine wpQuiet_nil ?_)
      refine Mix.wpMix_nil ?_
      refine Mix.wpF_0 ?_
      (refine Mix.wpMix_pure (by rfl) ?_; go_big_quiet_step (fail); refine wpQuiet_nil ?_)
      refine Mix.wpMix_nil ?_
      refine Mix.wpF_0 ?_
      (refine Mix.wpMix_pure (by rfl) ?_; go_big_quiet_step (fail); refine wpQuiet_nil ?_)
      refine Mix.wpMix_nil ?_
      refine Mix.wpF_0 ?_
      (refine Mix.wpMix_pure (by rfl) ?_; go_big_quiet_step (fail); refine wpQuiet_nil ?_)
      refine Mix.wpMix_nil ?_
      refine Mix.wpF_nil ?_
      have e0p := e0
      refine Mix.wpMix_chg (by rfl) (fun K hK => ?_)
      go_wp2_with fail
      refine hK _ _ ⟨⟨_, e0.alloc e0.size _⟩, rfl⟩ ?_
      clear hK K
      have e_q68 := e_q68.alloc e_q68.size (.cells #[.int .i64 0, .slice none 0 0, .slice none 0 0] 30)
      have e_q74 := e_q74.alloc e_q74.size (.cells #[.int .i64 0, .slice none 0 0, .slice none 0 0] 30)
      have e_q60 := e_q60.alloc e_q60.size (.cells #[.int .i64 0, .slice none 0 0, .slice none 0 0] 30)
      have bk : Blk (u5.alloc (.cells #[.int .i64 0, .slice none 0 0, .slice none 0 0] 30)) u5.heap.size 30 #[.int .i64 0, .slice none 0 0, .slice none 0 0] := Blk.new _ _ _
      have e0 := e0.alloc e0.size (.cells #[.int .i64 0, .slice none 0 0, .slice none 0 0] 30)
      repeat (first | (refine Mix.wpMix_read (by rfl) ?_; go_big_quiet_step (fail); refine wpQuiet_nil ?_) | (refine Mix.wpMix_pure (by rfl) ?_; go_big_quiet_step (fail); refine wpQuiet_nil ?_))
      have d0 := bk.cell 0; have f0 := bk.frozen 0
      simp at d0
      have d1 := bk.cell 1; have f1 := bk.frozen 1
      simp at d1
      have d2 := bk.cell 2; have f2 := bk.frozen 2
      simp at d2
      refine Mix.wpMix_tail (by rfl) (fun K hK => ?_)
      go_wp2_with fail
      refine hK _ _ ?_
      clear hK K
      repeat (first | (refine Mix.wpMix_read (by rfl) ?_; go_big_quiet_step (fail); refine wpQuiet_nil ?_) | (refine Mix.wpMix_pure (by rfl) ?_; go_big_quiet_step (fail); refine wpQuiet_nil ?_))
      (refine Mix.wpMix_nil ?_; try simp only [Exit.then])
      go_wp2_with fail
      go_meet
      have bk2 := (((bk.set_ 0 (.int .i64 RR.1.1)).set_ 1 (.slice A53 n54 c55)).set_ 2 (.slice B56 m57 d58))
      refine ⟨u5.heap.size, A53, n54, c55, B56, m57, d58, rfl, rfl, rfl, rfl, (by have := bk2.cell 0; first | exact this | (simp; done) | simpa using this), (by have := bk2.cell 1; first | exact this | (simp; done) | simpa using this), (by have := bk2.cell 2; first | exact this | (simp; done) | simpa using this), ?_, l61, ?_, ?_⟩
      · first | exact (q60.alloc _).wider (by first | omega | exact Nat.le_refl _ | (simp; done) | (simp; omega)) (by first | omega | exact Nat.le_refl _ | (simp; done) | (simp; omega)) | exact (((q60.set_far (.inl (by first | omega | exact Nat.le_refl _ | (simp; done) | (simp; omega))) _).set_far (.inl (by first | omega | exact Nat.le_refl _ | (simp; done) | (simp; omega))) _).set_far (.inl (by first | omega | exact Nat.le_refl _ | (simp; done) | (simp; omega))) _).wider (by first | omega | exact Nat.le_refl _ | (simp; done) | (simp; omega)) (by first | omega | exact Nat.le_refl _ | (simp; done) | (simp; omega))
      · exact (by first | omega | exact Nat.le_refl _ | (simp; done) | (simp; omega))
      · first | exact (by have hzz := (e0).size; repeat' (first | (with_reducible exact e0) | (with_reducible refine Below.alloc ?_ ?_ _) | (with_reducible refine Below.setCell ?_ ?_ _) | (with_reducible refine below_drew ?_) | omega | (simp; done) | (simp; omega))) | exact (by have hzz := (e0p).size; repeat' (first | (with_reducible exact e0p) | (with_reducible refine Below.alloc ?_ ?_ _) | (with_reducible refine Below.setCell ?_ ?_ _) | (with_reducible refine below_drew ?_) | omega | (simp; done) | (simp; omega)))
    case rest =>
      obtain ⟨g59, A53, n54, c55, B56, m57, d58, rfl, rfl, rfl, rfl, nc0, nc1, nc2, q60, l61, hgg59, hb'⟩ := hcut
      obtain ⟨w17, rfl⟩ : ∃ w17 : World, w17 = wc := ⟨_, rfl⟩
      have z17 := hb'.size
      have hlg59 : g59 < w17.heap.size := World.block_lt_of_cell? w17 _ nc0
      have c17_a0_0 : w17.cell? ⟨w.heap.size, 0, none⟩ = some (.int .i64 sy0) := keepc hb' c16_a0_0
      clear c16_a0_0 ac16_a0_0
      have c17_a0_1 : w17.cell? ⟨w.heap.size, 1, none⟩ = some (.int .i64 st0) := keepc hb' c16_a0_1
      clear c16_a0_1 ac16_a0_1
      have c17_a0_2 : w17.cell? ⟨w.heap.size, 2, none⟩ = some (.slice A0 n0 c0) := keepc hb' c16_a0_2
      clear c16_a0_2 ac16_a0_2
      have c17_a1_0 : w17.cell? ⟨(w.heap.size + 1), 0, none⟩ = some (.int .i64 st1) := keepc hb' c16_a1_0
      clear c16_a1_0 ac16_a1_0
      have c17_a1_1 : w17.cell? ⟨(w.heap.size + 1), 1, none⟩ = some (.slice A1 n1 c1) := keepc hb' c16_a1_1
      clear c16_a1_1 ac16_a1_1
      have c17_a1_2 : w17.cell? ⟨(w.heap.size + 1), 2, none⟩ = some (.slice B1 m1 d1) := keepc hb' c16_a1_2
      clear c16_a1_2 ac16_a1_2
      have c17_o33_0 : w17.cell? ⟨g17, 0, none⟩ = some (.int .i64 RR.1.1) := keepc hb' c16_o33_0
      clear c16_o33_0 ac16_o33_0
      have c17_o33_1 : w17.cell? ⟨g17, 1, none⟩ = some (.slice A11 n12 c13) := keepc hb' c16_o33_1
      clear c16_o33_1 ac16_o33_1
      have c17_o33_2 : w17.cell? ⟨g17, 2, none⟩ = some (.slice B14 m15 d16) := keepc hb' c16_o33_2
      clear c16_o33_2 ac16_o33_2
      have c17_o35_0 : w17.cell? ⟨w4.heap.size, 0, none⟩ = some (.int .i64 sy0) := keepc hb' c16_o35_0
      clear c16_o35_0 ac16_o35_0
      have c17_o35_1 : w17.cell? ⟨w4.heap.size, 1, none⟩ = some (.int .i64 st0) := keepc hb' c16_o35_1
      clear c16_o35_1 ac16_o35_1
      have c17_o35_2 : w17.cell? ⟨w4.heap.size, 2, none⟩ = some (.slice (some ⟨g034, 0, none⟩) n0 n0) := keepc hb' c16_o35_2
      clear c16_o35_2 ac16_o35_2
      have c17_o38_0 : w17.cell? ⟨w5.heap.size, 0, none⟩ = some (.int .i64 st1) := keepc hb' c16_o38_0
      clear c16_o38_0 ac16_o38_0
      have c17_o38_1 : w17.cell? ⟨w5.heap.size, 1, none⟩ = some (.slice (some ⟨g036, 0, none⟩) n1 n1) := keepc hb' c16_o38_1
      clear c16_o38_1 ac16_o38_1
      have c17_o38_2 : w17.cell? ⟨w5.heap.size, 2, none⟩ = some (.slice (some ⟨g137, 0, none⟩) m1 m1) := keepc hb' c16_o38_2
      clear c16_o38_2 ac16_o38_2
      have c17_o47_0 : w17.cell? ⟨w6.heap.size, 0, none⟩ = some (.int .i64 RR.1.1) := keepc hb' c16_o47_0
      clear c16_o47_0 ac16_o47_0
      have c17_o47_1 : w17.cell? ⟨w6.heap.size, 1, none⟩ = some (.slice A39 n40 c41) := keepc hb' c16_o47_1
      clear c16_o47_1 ac16_o47_1
      have c17_o47_2 : w17.cell? ⟨w6.heap.size, 2, none⟩ = some (.slice B42 m43 d44) := keepc hb' c16_o47_2
      clear c16_o47_2 ac16_o47_2
      have c17_o75_0 := nc0; clear nc0
      have c17_o75_1 := nc1; clear nc1
      have c17_o75_2 := nc2; clear nc2
      have ac17_a0_0 := fun o => keepa o c17_a0_0
      have ac17_a0_1 := fun o => keepa o c17_a0_1
      have ac17_a0_2 := fun o => keepa o c17_a0_2
      have ac17_a1_0 := fun o => keepa o c17_a1_0
      have ac17_a1_1 := fun o => keepa o c17_a1_1
      have ac17_a1_2 := fun o => keepa o c17_a1_2
      have ac17_o33_0 := fun o => keepa o c17_o33_0
      have ac17_o33_1 := fun o => keepa o c17_o33_1
      have ac17_o33_2 := fun o => keepa o c17_o33_2
      have ac17_o35_0 := fun o => keepa o c17_o35_0
      have ac17_o35_1 := fun o => keepa o c17_o35_1
      have ac17_o35_2 := fun o => keepa o c17_o35_2
      have ac17_o38_0 := fun o => keepa o c17_o38_0
      have ac17_o38_1 := fun o => keepa o c17_o38_1
      have ac17_o38_2 := fun o => keepa o c17_o38_2
      have ac17_o47_0 := fun o => keepa o c17_o47_0
      have ac17_o47_1 := fun o => keepa o c17_o47_1
      have ac17_o47_2 := fun o => keepa o c17_o47_2
      have ac17_o75_0 := fun o => keepa o c17_o75_0
      have ac17_o75_1 := fun o => keepa o c17_o75_1
      have ac17_o75_2 := fun o => keepa o c17_o75_2
      have rP0 := P0.out.below hb'; clear P0; have P0 := Lib.hid rP0; clear rP0
      have rP1 := P1.out.below hb'; clear P1; have P1 := Lib.hid rP1; clear rP1
      have rFo33 := Fo33.out.below hb'; clear Fo33; have Fo33 := Lib.hid rFo33; clear rFo33
      have rFo35 := Fo35.out.below hb'; clear Fo35; have Fo35 := Lib.hid rFo35; clear rFo35
      have rFo38 := Fo38.out.below hb'; clear Fo38; have Fo38 := Lib.hid rFo38; clear rFo38
      have rFo47 := Fo47.out.below hb'; clear Fo47; have Fo47 := Lib.hid rFo47; clear rFo47
      have rB := below_chain B.out (by omega) hb'; clear B; have B := Lib.hid rB; clear rB hb'
      have Fo75 := Lib.hid q60; clear q60
      go_wp2_with fail
      refine (eqConfig_t _ _ _ _ _ _ _ _ _ _ _ _ _ _ _ _ (by exact (Fo75.out.rd)) (by exact (Fo33.out.rd)) (by omega) (by omega)).mono ?_
      rintro e w18 ⟨rfl, hb⟩
      have hb' : Below w17.heap.size w17 w18 := (by first | (with_reducible exact hb) | (with_reducible exact up1 hb) | (with_reducible exact up2 hb) | (with_reducible exact up3 hb) | (with_reducible exact up4 hb) | (with_reducible exact below_of_drew hb) | (with_reducible exact below_of_drew (up1 hb)))
      have z18 := hb'.size
      have c18_a0_0 : w18.cell? ⟨w.heap.size, 0, none⟩ = some (.int .i64 sy0) := keepc hb' c17_a0_0
      clear c17_a0_0 ac17_a0_0
      have c18_a0_1 : w18.cell? ⟨w.heap.size, 1, none⟩ = some (.int .i64 st0) := keepc hb' c17_a0_1
      clear c17_a0_1 ac17_a0_1
      have c18_a0_2 : w18.cell? ⟨w.heap.size, 2, none⟩ = some (.slice A0 n0 c0) := keepc hb' c17_a0_2
      clear c17_a0_2 ac17_a0_2
      have c18_a1_0 : w18.cell? ⟨(w.heap.size + 1), 0, none⟩ = some (.int .i64 st1) := keepc hb' c17_a1_0
      clear c17_a1_0 ac17_a1_0
      have c18_a1_1 : w18.cell? ⟨(w.heap.size + 1), 1, none⟩ = some (.slice A1 n1 c1) := keepc hb' c17_a1_1
      clear c17_a1_1 ac17_a1_1
      have c18_a1_2 : w18.cell? ⟨(w.heap.size + 1), 2, none⟩ = some (.slice B1 m1 d1) := keepc hb' c17_a1_2
      clear c17_a1_2 ac17_a1_2
      have c18_o33_0 : w18.cell? ⟨g17, 0, none⟩ = some (.int .i64 RR.1.1) := keepc hb' c17_o33_0
      clear c17_o33_0 ac17_o33_0
      have c18_o33_1 : w18.cell? ⟨g17, 1, none⟩ = some (.slice A11 n12 c13) := keepc hb' c17_o33_1
      clear c17_o33_1 ac17_o33_1
      have c18_o33_2 : w18.cell? ⟨g17, 2, none⟩ = some (.slice B14 m15 d16) := keepc hb' c17_o33_2
      clear c17_o33_2 ac17_o33_2
      have c18_o35_0 : w18.cell? ⟨w4.heap.size, 0, none⟩ = some (.int .i64 sy0) := keepc hb' c17_o35_0
      clear c17_o35_0 ac17_o35_0
      have c18_o35_1 : w18.cell? ⟨w4.heap.size, 1, none⟩ = some (.int .i64 st0) := keepc hb' c17_o35_1
      clear c17_o35_1 ac17_o35_1
      have c18_o35_2 : w18.cell? ⟨w4.heap.size, 2, none⟩ = some (.slice (some ⟨g034, 0, none⟩) n0 n0) := keepc hb' c17_o35_2
      clear c17_o35_2 ac17_o35_2
      have c18_o38_0 : w18.cell? ⟨w5.heap.size, 0, none⟩ = some (.int .i64 st1) := keepc hb' c17_o38_0
      clear c17_o38_0 ac17_o38_0
      have c18_o38_1 : w18.cell? ⟨w5.heap.size, 1, none⟩ = some (.slice (some ⟨g036, 0, none⟩) n1 n1) := keepc hb' c17_o38_1
      clear c17_o38_1 ac17_o38_1
      have c18_o38_2 : w18.cell? ⟨w5.heap.size, 2, none⟩ = some (.slice (some ⟨g137, 0, none⟩) m1 m1) := keepc hb' c17_o38_2
      clear c17_o38_2 ac17_o38_2
      have c18_o47_0 : w18.cell? ⟨w6.heap.size, 0, none⟩ = some (.int .i64 RR.1.1) := keepc hb' c17_o47_0
      clear c17_o47_0 ac17_o47_0
      have c18_o47_1 : w18.cell? ⟨w6.heap.size, 1, none⟩ = some (.slice A39 n40 c41) := keepc hb' c17_o47_1
      clear c17_o47_1 ac17_o47_1
      have c18_o47_2 : w18.cell? ⟨w6.heap.size, 2, none⟩ = some (.slice B42 m43 d44) := keepc hb' c17_o47_2
      clear c17_o47_2 ac17_o47_2
      have c18_o75_0 : w18.cell? ⟨g59, 0, none⟩ = some (.int .i64 RR.1.1) := keepc hb' c17_o75_0
      clear c17_o75_0 ac17_o75_0
      have c18_o75_1 : w18.cell? ⟨g59, 1, none⟩ = some (.slice A53 n54 c55) := keepc hb' c17_o75_1
      clear c17_o75_1 ac17_o75_1
      have c18_o75_2 : w18.cell? ⟨g59, 2, none⟩ = some (.slice B56 m57 d58) := keepc hb' c17_o75_2
      clear c17_o75_2 ac17_o75_2
      have ac18_a0_0 := fun o => keepa o c18_a0_0
      have ac18_a0_1 := fun o => keepa o c18_a0_1
      have ac18_a0_2 := fun o => keepa o c18_a0_2
      have ac18_a1_0 := fun o => keepa o c18_a1_0
      have ac18_a1_1 := fun o => keepa o c18_a1_1
      have ac18_a1_2 := fun o => keepa o c18_a1_2
      have ac18_o33_0 := fun o => keepa o c18_o33_0
      have ac18_o33_1 := fun o => keepa o c18_o33_1
      have ac18_o33_2 := fun o => keepa o c18_o33_2
      have ac18_o35_0 := fun o => keepa o c18_o35_0
      have ac18_o35_1 := fun o => keepa o c18_o35_1
      have ac18_o35_2 := fun o => keepa o c18_o35_2
      have ac18_o38_0 := fun o => keepa o c18_o38_0
      have ac18_o38_1 := fun o => keepa o c18_o38_1
      have ac18_o38_2 := fun o => keepa o c18_o38_2
      have ac18_o47_0 := fun o => keepa o c18_o47_0
      have ac18_o47_1 := fun o => keepa o c18_o47_1
      have ac18_o47_2 := fun o => keepa o c18_o47_2
      have ac18_o75_0 := fun o => keepa o c18_o75_0
      have ac18_o75_1 := fun o => keepa o c18_o75_1
      have ac18_o75_2 := fun o => keepa o c18_o75_2
      have rP0 := P0.out.below hb'; clear P0; have P0 := Lib.hid rP0; clear rP0
      have rP1 := P1.out.below hb'; clear P1; have P1 := Lib.hid rP1; clear rP1
      have rFo33 := Fo33.out.below hb'; clear Fo33; have Fo33 := Lib.hid rFo33; clear rFo33
      have rFo35 := Fo35.out.below hb'; clear Fo35; have Fo35 := Lib.hid rFo35; clear rFo35
      have rFo38 := Fo38.out.below hb'; clear Fo38; have Fo38 := Lib.hid rFo38; clear rFo38
      have rFo47 := Fo47.out.below hb'; clear Fo47; have Fo47 := Lib.hid rFo47; clear rFo47
      have rFo75 := Fo75.out.below hb'; clear Fo75; have Fo75 := Lib.hid rFo75; clear rFo75
      have rB := below_chain B.out (by omega) hb'; clear B; have B := Lib.hid rB; clear rB
      clear hb hb'
      go_wp2_with fail
      refine (heldConfig_c _ _ _ _ _ _ _ _ _ _ _ (by exact (Fo47.out.rd)) (by omega) (by omega) (by omega) (by omega)).mono ?_
      rintro e w19 ⟨rfl, hb⟩
      have hb' : Below w18.heap.size w18 w19 := (by first | (with_reducible exact hb) | (with_reducible exact up1 hb) | (with_reducible exact up2 hb) | (with_reducible exact up3 hb) | (with_reducible exact up4 hb) | (with_reducible exact below_of_drew hb) | (with_reducible exact below_of_drew (up1 hb)))
      have z19 := hb'.size
      have c19_a0_0 : w19.cell? ⟨w.heap.size, 0, none⟩ = some (.int .i64 sy0) := keepc hb' c18_a0_0
      clear c18_a0_0 ac18_a0_0
      have c19_a0_1 : w19.cell? ⟨w.heap.size, 1, none⟩ = some (.int .i64 st0) := keepc hb' c18_a0_1
      clear c18_a0_1 ac18_a0_1
      have c19_a0_2 : w19.cell? ⟨w.heap.size, 2, none⟩ = some (.slice A0 n0 c0) := keepc hb' c18_a0_2
      clear c18_a0_2 ac18_a0_2
      have c19_a1_0 : w19.cell? ⟨(w.heap.size + 1), 0, none⟩ = some (.int .i64 st1) := keepc hb' c18_a1_0
      clear c18_a1_0 ac18_a1_0
      have c19_a1_1 : w19.cell? ⟨(w.heap.size + 1), 1, none⟩ = some (.slice A1 n1 c1) := keepc hb' c18_a1_1
      clear c18_a1_1 ac18_a1_1
      have c19_a1_2 : w19.cell? ⟨(w.heap.size + 1), 2, none⟩ = some (.slice B1 m1 d1) := keepc hb' c18_a1_2
      clear c18_a1_2 ac18_a1_2
      have c19_o33_0 : w19.cell? ⟨g17, 0, none⟩ = some (.int .i64 RR.1.1) := keepc hb' c18_o33_0
      clear c18_o33_0 ac18_o33_0
      have c19_o33_1 : w19.cell? ⟨g17, 1, none⟩ = some (.slice A11 n12 c13) := keepc hb' c18_o33_1
      clear c18_o33_1 ac18_o33_1
      have c19_o33_2 : w19.cell? ⟨g17, 2, none⟩ = some (.slice B14 m15 d16) := keepc hb' c18_o33_2
      clear c18_o33_2 ac18_o33_2
      have c19_o35_0 : w19.cell? ⟨w4.heap.size, 0, none⟩ = some (.int .i64 sy0) := keepc hb' c18_o35_0
      clear c18_o35_0 ac18_o35_0
      have c19_o35_1 : w19.cell? ⟨w4.heap.size, 1, none⟩ = some (.int .i64 st0) := keepc hb' c18_o35_1
      clear c18_o35_1 ac18_o35_1
      have c19_o35_2 : w19.cell? ⟨w4.heap.size, 2, none⟩ = some (.slice (some ⟨g034, 0, none⟩) n0 n0) := keepc hb' c18_o35_2
      clear c18_o35_2 ac18_o35_2
      have c19_o38_0 : w19.cell? ⟨w5.heap.size, 0, none⟩ = some (.int .i64 st1) := keepc hb' c18_o38_0
      clear c18_o38_0 ac18_o38_0
      have c19_o38_1 : w19.cell? ⟨w5.heap.size, 1, none⟩ = some (.slice (some ⟨g036, 0, none⟩) n1 n1) := keepc hb' c18_o38_1
      clear c18_o38_1 ac18_o38_1
      have c19_o38_2 : w19.cell? ⟨w5.heap.size, 2, none⟩ = some (.slice (some ⟨g137, 0, none⟩) m1 m1) := keepc hb' c18_o38_2
      clear c18_o38_2 ac18_o38_2
      have c19_o47_0 : w19.cell? ⟨w6.heap.size, 0, none⟩ = some (.int .i64 RR.1.1) := keepc hb' c18_o47_0
      clear c18_o47_0 ac18_o47_0
      have c19_o47_1 : w19.cell? ⟨w6.heap.size, 1, none⟩ = some (.slice A39 n40 c41) := keepc hb' c18_o47_1
      clear c18_o47_1 ac18_o47_1
      have c19_o47_2 : w19.cell? ⟨w6.heap.size, 2, none⟩ = some (.slice B42 m43 d44) := keepc hb' c18_o47_2
      clear c18_o47_2 ac18_o47_2
      have c19_o75_0 : w19.cell? ⟨g59, 0, none⟩ = some (.int .i64 RR.1.1) := keepc hb' c18_o75_0
      clear c18_o75_0 ac18_o75_0
      have c19_o75_1 : w19.cell? ⟨g59, 1, none⟩ = some (.slice A53 n54 c55) := keepc hb' c18_o75_1
      clear c18_o75_1 ac18_o75_1
      have c19_o75_2 : w19.cell? ⟨g59, 2, none⟩ = some (.slice B56 m57 d58) := keepc hb' c18_o75_2
      clear c18_o75_2 ac18_o75_2
      have ac19_a0_0 := fun o => keepa o c19_a0_0
      have ac19_a0_1 := fun o => keepa o c19_a0_1
      have ac19_a0_2 := fun o => keepa o c19_a0_2
      have ac19_a1_0 := fun o => keepa o c19_a1_0
      have ac19_a1_1 := fun o => keepa o c19_a1_1
      have ac19_a1_2 := fun o => keepa o c19_a1_2
      have ac19_o33_0 := fun o => keepa o c19_o33_0
      have ac19_o33_1 := fun o => keepa o c19_o33_1
      have ac19_o33_2 := fun o => keepa o c19_o33_2
      have ac19_o35_0 := fun o => keepa o c19_o35_0
      have ac19_o35_1 := fun o => keepa o c19_o35_1
      have ac19_o35_2 := fun o => keepa o c19_o35_2
      have ac19_o38_0 := fun o => keepa o c19_o38_0
      have ac19_o38_1 := fun o => keepa o c19_o38_1
      have ac19_o38_2 := fun o => keepa o c19_o38_2
      have ac19_o47_0 := fun o => keepa o c19_o47_0
      have ac19_o47_1 := fun o => keepa o c19_o47_1
      have ac19_o47_2 := fun o => keepa o c19_o47_2
      have ac19_o75_0 := fun o => keepa o c19_o75_0
      have ac19_o75_1 := fun o => keepa o c19_o75_1
      have ac19_o75_2 := fun o => keepa o c19_o75_2
      have rP0 := P0.out.below hb'; clear P0; have P0 := Lib.hid rP0; clear rP0
      have rP1 := P1.out.below hb'; clear P1; have P1 := Lib.hid rP1; clear rP1
      have rFo33 := Fo33.out.below hb'; clear Fo33; have Fo33 := Lib.hid rFo33; clear rFo33
      have rFo35 := Fo35.out.below hb'; clear Fo35; have Fo35 := Lib.hid rFo35; clear rFo35
      have rFo38 := Fo38.out.below hb'; clear Fo38; have Fo38 := Lib.hid rFo38; clear rFo38
      have rFo47 := Fo47.out.below hb'; clear Fo47; have Fo47 := Lib.hid rFo47; clear rFo47
      have rFo75 := Fo75.out.below hb'; clear Fo75; have Fo75 := Lib.hid rFo75; clear rFo75
      have rB := below_chain B.out (by omega) hb'; clear B; have B := Lib.hid rB; clear rB
      clear hb hb'
      go_wp2
      go_ret
      exact ⟨rfl, B.out⟩
end Go.Proofs.Ytcbcjhfeidkeaaa
