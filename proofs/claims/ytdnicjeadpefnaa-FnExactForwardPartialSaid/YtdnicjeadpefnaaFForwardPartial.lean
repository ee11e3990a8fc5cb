/-
  FnExactForwardPartial returns true for every input: its walk, out of the contracts.
-/
import Derived.Test.YtdnicjeadpefnaaLawMachine
import Derived.Test.YtdnicjeadpefnaaLawPartial
import Derived.Test.YtdnicjeadpefnaaC26f
import Derived.Test.YtdnicjeadpefnaaMixF
import Derived.Test.YtdnicjeadpefnaaOpen
namespace Go.Proofs.Ytdnicjeadpefnaa
open Go.RowKit

set_option maxHeartbeats 4000000 in
set_option maxRecDepth 100000 in
theorem walkForwardPartial (sy0 : Int) (st0 : Int) (A0 : Option Addr) (n0 : Nat) (c0 : Nat) (xs0 : List (Int × Int × Int)) (st1 : Int) (at1 : Int) (A1 : Option Addr) (n1 : Nat) (c1 : Nat) (xs1 : List Int) (x2 : Int) (w : World) (h0 : RdS w [sgX enc3 3 A0 n0 xs0]) (hb0_0 : n0 ≤ 9223372036854775807) (_o0 : i64ok sy0) (_p0 : i64ok st0) (_oo0 : ∀ x ∈ xs0, i64ok x.1 ∧ i64ok x.2.1 ∧ i64ok x.2.2) (h1 : RdS w [sgI A1 n1 xs1]) (hb1_0 : n1 ≤ 9223372036854775807) (_o1 : i64ok st1) (_p1 : i64ok at1) (_oo1 : ∀ x ∈ xs1, i64ok x) (_o2 : i64ok x2) :
    Calls Try.prog 6 #[.agg #[.int .i64 sy0, .int .i64 st0, .slice A0 n0 c0], .agg #[.int .i64 st1, .int .i64 at1, .slice A1 n1 c1], .int .i64 x2] w fun e w' => e = .returned (.bool true) ∧ Below w.heap.size w w' := by
  have P0 := Lib.hid (RdSU.mk' h0); clear h0
  have P1 := Lib.hid (RdSU.mk' h1); clear h1
  go_enter Try.func6, Try.ntmps6
  go_wp2_with fail
  refine (szMachine_c _ _ _ _ _ xs0 _ _ hb0_0 (by omega) (by omega)).mono ?_
  rintro e w1 ⟨rfl, hb⟩
  have hb' : Below w.heap.size w w1 := (by first | (with_reducible exact hb) | (with_reducible exact up1 hb) | (with_reducible exact up2 hb) | (with_reducible exact up3 hb) | (with_reducible exact up4 hb) | (with_reducible exact below_of_drew hb) | (with_reducible exact below_of_drew (up1 hb)))
  have z1 := hb'.size
  have c1_a0_0 : w1.cell? ⟨w.heap.size, 0, none⟩ = some (.int .i64 sy0) := keepc hb (by first | (simp; done) | (rw [World.cell?_alloc_past _ _ _ (by simp <;> omega)]; simp; done) | (rw [World.cell?_alloc_past _ _ _ (by simp <;> omega), World.cell?_alloc_past _ _ _ (by simp <;> omega)]; simp; done) | (rw [World.cell?_alloc_past _ _ _ (by simp <;> omega), World.cell?_alloc_past _ _ _ (by simp <;> omega), World.cell?_alloc_past _ _ _ (by simp <;> omega)]; simp; done) | (rw [World.cell?_alloc_at _ _ _ _ (by simp)]; simp; done) | (rw [World.cell?_alloc_past _ _ _ (by simp <;> omega), World.cell?_alloc_at _ _ _ _ (by simp)]; simp; done) | (rw [World.cell?_alloc_past _ _ _ (by simp <;> omega), World.cell?_alloc_past _ _ _ (by simp <;> omega), World.cell?_alloc_at _ _ _ _ (by simp)]; simp; done) | (rw [World.cell?_alloc_past _ _ _ (by simp <;> omega), World.cell?_alloc_past _ _ _ (by simp <;> omega), World.cell?_alloc_past _ _ _ (by simp <;> omega), World.cell?_alloc_at _ _ _ _ (by simp)]; simp; done))
  have hl_c1_a0_0 : w.heap.size < w1.heap.size := World.block_lt_of_cell? w1 _ c1_a0_0
  have c1_a0_1 : w1.cell? ⟨w.heap.size, 1, none⟩ = some (.int .i64 st0) := keepc hb (by first | (simp; done) | (rw [World.cell?_alloc_past _ _ _ (by simp <;> omega)]; simp; done) | (rw [World.cell?_alloc_past _ _ _ (by simp <;> omega), World.cell?_alloc_past _ _ _ (by simp <;> omega)]; simp; done) | (rw [World.cell?_alloc_past _ _ _ (by simp <;> omega), World.cell?_alloc_past _ _ _ (by simp <;> omega), World.cell?_alloc_past _ _ _ (by simp <;> omega)]; simp; done) | (rw [World.cell?_alloc_at _ _ _ _ (by simp)]; simp; done) | (rw [World.cell?_alloc_past _ _ _ (by simp <;> omega), World.cell?_alloc_at _ _ _ _ (by simp)]; simp; done) | (rw [World.cell?_alloc_past _ _ _ (by simp <;> omega), World.cell?_alloc_past _ _ _ (by simp <;> omega), World.cell?_alloc_at _ _ _ _ (by simp)]; simp; done) | (rw [World.cell?_alloc_past _ _ _ (by simp <;> omega), World.cell?_alloc_past _ _ _ (by simp <;> omega), World.cell?_alloc_past _ _ _ (by simp <;> omega), World.cell?_alloc_at _ _ _ _ (by simp)]; simp; done))
  have c1_a0_2 : w1.cell? ⟨w.heap.size, 2, none⟩ = some (.slice A0 n0 c0) := keepc hb (by first | (simp; done) | (rw [World.cell?_alloc_past _ _ _ (by simp <;> omega)]; simp; done) | (rw [World.cell?_alloc_past _ _ _ (by simp <;> omega), World.cell?_alloc_past _ _ _ (by simp <;> omega)]; simp; done) | (rw [World.cell?_alloc_past _ _ _ (by simp <;> omega), World.cell?_alloc_past _ _ _ (by simp <;> omega), World.cell?_alloc_past _ _ _ (by simp <;> omega)]; simp; done) | (rw [World.cell?_alloc_at _ _ _ _ (by simp)]; simp; done) | (rw [World.cell?_alloc_past _ _ _ (by simp <;> omega), World.cell?_alloc_at _ _ _ _ (by simp)]; simp; done) | (rw [World.cell?_alloc_past _ _ _ (by simp <;> omega), World.cell?_alloc_past _ _ _ (by simp <;> omega), World.cell?_alloc_at _ _ _ _ (by simp)]; simp; done) | (rw [World.cell?_alloc_past _ _ _ (by simp <;> omega), World.cell?_alloc_past _ _ _ (by simp <;> omega), World.cell?_alloc_past _ _ _ (by simp <;> omega), World.cell?_alloc_at _ _ _ _ (by simp)]; simp; done))
  have c1_a1_0 : w1.cell? ⟨(w.heap.size + 1), 0, none⟩ = some (.int .i64 st1) := keepc hb (by first | (simp; done) | (rw [World.cell?_alloc_past _ _ _ (by simp <;> omega)]; simp; done) | (rw [World.cell?_alloc_past _ _ _ (by simp <;> omega), World.cell?_alloc_past _ _ _ (by simp <;> omega)]; simp; done) | (rw [World.cell?_alloc_past _ _ _ (by simp <;> omega), World.cell?_alloc_past _ _ _ (by simp <;> omega), World.cell?_alloc_past _ _ _ (by simp <;> omega)]; simp; done) | (rw [World.cell?_alloc_at _ _ _ _ (by simp)]; simp; done) | (rw [World.cell?_alloc_past _ _ _ (by simp <;> omega), World.cell?_alloc_at _ _ _ _ (by simp)]; simp; done) | (rw [World.cell?_alloc_past _ _ _ (by simp <;> omega), World.cell?_alloc_past _ _ _ (by simp <;> omega), World.cell?_alloc_at _ _ _ _ (by simp)]; simp; done) | (rw [World.cell?_alloc_past _ _ _ (by simp <;> omega), World.cell?_alloc_past _ _ _ (by simp <;> omega), World.cell?_alloc_past _ _ _ (by simp <;> omega), World.cell?_alloc_at _ _ _ _ (by simp)]; simp; done))
  have hl_c1_a1_0 : (w.heap.size + 1) < w1.heap.size := World.block_lt_of_cell? w1 _ c1_a1_0
  have c1_a1_1 : w1.cell? ⟨(w.heap.size + 1), 1, none⟩ = some (.int .i64 at1) := keepc hb (by first | (simp; done) | (rw [World.cell?_alloc_past _ _ _ (by simp <;> omega)]; simp; done) | (rw [World.cell?_alloc_past _ _ _ (by simp <;> omega), World.cell?_alloc_past _ _ _ (by simp <;> omega)]; simp; done) | (rw [World.cell?_alloc_past _ _ _ (by simp <;> omega), World.cell?_alloc_past _ _ _ (by simp <;> omega), World.cell?_alloc_past _ _ _ (by simp <;> omega)]; simp; done) | (rw [World.cell?_alloc_at _ _ _ _ (by simp)]; simp; done) | (rw [World.cell?_alloc_past _ _ _ (by simp <;> omega), World.cell?_alloc_at _ _ _ _ (by simp)]; simp; done) | (rw [World.cell?_alloc_past _ _ _ (by simp <;> omega), World.cell?_alloc_past _ _ _ (by simp <;> omega), World.cell?_alloc_at _ _ _ _ (by simp)]; simp; done) | (rw [World.cell?_alloc_past _ _ _ (by simp <;> omega), World.cell?_alloc_past _ _ _ (by simp <;> omega), World.cell?_alloc_past _ _ _ (by simp <;> omega), World.cell?_alloc_at _ _ _ _ (by simp)]; simp; done))
  have c1_a1_2 : w1.cell? ⟨(w.heap.size + 1), 2, none⟩ = some (.slice A1 n1 c1) := keepc hb (by first | (simp; done) | (rw [World.cell?_alloc_past _ _ _ (by simp <;> omega)]; simp; done) | (rw [World.cell?_alloc_past _ _ _ (by simp <;> omega), World.cell?_alloc_past _ _ _ (by simp <;> omega)]; simp; done) | (rw [World.cell?_alloc_past _ _ _ (by simp <;> omega), World.cell?_alloc_past _ _ _ (by simp <;> omega), World.cell?_alloc_past _ _ _ (by simp <;> omega)]; simp; done) | (rw [World.cell?_alloc_at _ _ _ _ (by simp)]; simp; done) | (rw [World.cell?_alloc_past _ _ _ (by simp <;> omega), World.cell?_alloc_at _ _ _ _ (by simp)]; simp; done) | (rw [World.cell?_alloc_past _ _ _ (by simp <;> omega), World.cell?_alloc_past _ _ _ (by simp <;> omega), World.cell?_alloc_at _ _ _ _ (by simp)]; simp; done) | (rw [World.cell?_alloc_past _ _ _ (by simp <;> omega), World.cell?_alloc_past _ _ _ (by simp <;> omega), World.cell?_alloc_past _ _ _ (by simp <;> omega), World.cell?_alloc_at _ _ _ _ (by simp)]; simp; done))
  have ac1_a0_0 := fun o => keepa o c1_a0_0
  have ac1_a0_1 := fun o => keepa o c1_a0_1
  have ac1_a0_2 := fun o => keepa o c1_a0_2
  have ac1_a1_0 := fun o => keepa o c1_a1_0
  have ac1_a1_1 := fun o => keepa o c1_a1_1
  have ac1_a1_2 := fun o => keepa o c1_a1_2
  have rP0 := P0.out.below hb'; clear P0; have P0 := Lib.hid rP0; clear rP0
  have rP1 := P1.out.below hb'; clear P1; have P1 := Lib.hid rP1; clear rP1
  have rB := hb'; have B := Lib.hid rB; clear rB
  clear hb hb'
  by_cases hs1 : 1048576 < n0
  · rw [szOf_neg' (by omega)]
    go_wp2
    go_ret
    exact ⟨rfl, B.out⟩
  rw [szOf_pos' (by omega)]
  have hs1' : (0 : Int) ≤ 1048576 - (n0 : Nat) := by omega
  go_wp2_with fail
  refine (szPartial_c _ _ _ _ _ xs1 _ _ hb1_0 (by omega) (by omega)).mono ?_
  rintro e w2 ⟨rfl, hb⟩
  have hb' : Below w1.heap.size w1 w2 := (by first | (with_reducible exact hb) | (with_reducible exact up1 hb) | (with_reducible exact up2 hb) | (with_reducible exact up3 hb) | (with_reducible exact up4 hb) | (with_reducible exact below_of_drew hb) | (with_reducible exact below_of_drew (up1 hb)))
  have z2 := hb'.size
  have c2_a0_0 : w2.cell? ⟨w.heap.size, 0, none⟩ = some (.int .i64 sy0) := keepc hb' c1_a0_0
  clear c1_a0_0 ac1_a0_0
  have c2_a0_1 : w2.cell? ⟨w.heap.size, 1, none⟩ = some (.int .i64 st0) := keepc hb' c1_a0_1
  clear c1_a0_1 ac1_a0_1
  have c2_a0_2 : w2.cell? ⟨w.heap.size, 2, none⟩ = some (.slice A0 n0 c0) := keepc hb' c1_a0_2
  clear c1_a0_2 ac1_a0_2
  have c2_a1_0 : w2.cell? ⟨(w.heap.size + 1), 0, none⟩ = some (.int .i64 st1) := keepc hb' c1_a1_0
  clear c1_a1_0 ac1_a1_0
  have c2_a1_1 : w2.cell? ⟨(w.heap.size + 1), 1, none⟩ = some (.int .i64 at1) := keepc hb' c1_a1_1
  clear c1_a1_1 ac1_a1_1
  have c2_a1_2 : w2.cell? ⟨(w.heap.size + 1), 2, none⟩ = some (.slice A1 n1 c1) := keepc hb' c1_a1_2
  clear c1_a1_2 ac1_a1_2
  have ac2_a0_0 := fun o => keepa o c2_a0_0
  have ac2_a0_1 := fun o => keepa o c2_a0_1
  have ac2_a0_2 := fun o => keepa o c2_a0_2
  have ac2_a1_0 := fun o => keepa o c2_a1_0
  have ac2_a1_1 := fun o => keepa o c2_a1_1
  have ac2_a1_2 := fun o => keepa o c2_a1_2
  have rP0 := P0.out.below hb'; clear P0; have P0 := Lib.hid rP0; clear rP0
  have rP1 := P1.out.below hb'; clear P1; have P1 := Lib.hid rP1; clear rP1
  have rB := below_chain B.out (by omega) hb'; clear B; have B := Lib.hid rB; clear rB
  clear hb hb'
  by_cases hs2 : 1048576 - (n0 : Nat) < n1
  · rw [szOf_neg' (by omega)]
    go_wp2
    go_ret
    exact ⟨rfl, B.out⟩
  rw [szOf_pos' (by omega)]
  have hs2' : (0 : Int) ≤ 1048576 - (n0 : Nat) - (n1 : Nat) := by omega
  go_wp2_with fail
  go_cut [8, 9, 10, 11] (fun v0 v1 v2 v3 wx => ∃ (g14 : Nat) (A11 : Option Addr) (n12 : Nat) (c13 : Nat), v0 = .pointer (some ⟨g14, 0, none⟩) ∧ v1 = .int .i64 (fwR sy0 st0 xs0 st1 at1 xs1 x2).2.1 ∧ v2 = .int .i64 (fwR sy0 st0 xs0 st1 at1 xs1 x2).2.2.1 ∧ v3 = .int .i64 (fwR sy0 st0 xs0 st1 at1 xs1 x2).2.2.2 ∧ wx.cell? ⟨g14, 0, none⟩ = some (.int .i64 (fwR sy0 st0 xs0 st1 at1 xs1 x2).1.1) ∧ wx.cell? ⟨g14, 1, none⟩ = some (.int .i64 (fwR sy0 st0 xs0 st1 at1 xs1 x2).1.2.1) ∧ wx.cell? ⟨g14, 2, none⟩ = some (.slice A11 n12 c13) ∧ WrS wx w2.heap.size wx.heap.size [sgI A11 n12 (fwR sy0 st0 xs0 st1 at1 xs1 x2).1.2.2] ∧ n12 ≤ 1000000 ∧ w2.heap.size ≤ g14 ∧ Below w2.heap.size w2 wx)
  case first =>
    have fx_c2_a0_0 := Ext.cell c2_a0_0
    have fx_c2_a0_1 := Ext.cell c2_a0_1
    have fx_c2_a0_2 := Ext.cell c2_a0_2
    have fx_c2_a1_0 := Ext.cell c2_a1_0
    have fx_c2_a1_1 := Ext.cell c2_a1_1
    have fx_c2_a1_2 := Ext.cell c2_a1_2
    refine Mix.wp_region_mixF 11 [3, 1, 3, 1, 0, 1, 0, 0, 0, 0, 0, 1, 2, 0, 0, 0] (fun w' => ∃ x : Ext w2, w' = x.w) (by kernel_rfl) (by kernel_rfl) (InExt.drew _) _ _ (by rfl) ?_
    simp only [List.take_succ_cons, List.take_zero, List.drop_succ_cons, List.drop_zero]
    have e0 : Below w2.heap.size w2 w2.drew := InExt.out (InExt.drew _)
    refine Mix.wpF_3 ?_
    (refine Mix.wpMix_read (by rfl) ?_; go_big_quiet_step (fail); refine wpQuiet_nil ?_)
    refine Mix.wpMix_nil ?_
    refine Mix.wpF_1 ?_ ?_
    · simp only [List.cons_append, List.nil_append]
      have e0p := e0
      refine Mix.wpMix_chg (by rfl) (fun K hK => ?_)
      go_wp2_with fail
      refine hK _ _ ⟨⟨_, e0.alloc e0.size _⟩, rfl⟩ ?_
      clear hK K
      have bk : Blk (w2.drew.alloc (.cells #[.int .i64 0, .int .i64 0, .slice none 0 0] 57)) w2.heap.size 57 #[.int .i64 0, .int .i64 0, .slice none 0 0] := Blk.new _ _ _
      have e0 := e0.alloc e0.size (.cells #[.int .i64 0, .int .i64 0, .slice none 0 0] 57)
      refine Mix.wpMix_chg (by rfl) (fun K hK => ?_)
      go_wp2_with fail
      refine (toMachine_c _ _ _ _ _ _ _ (by exact ((P0.out.rd).below e0)) (by omega)).mono ?_
      rintro e ua11 ⟨g017, rfl, q18, hb⟩
      have e0 := below_chain e0 e0.size hb
      have bk := bk.keep hb
      have e_q18 : Below ua11.heap.size ua11 ua11 := below_size
      have zua11 : w2.heap.size + 1 ≤ ua11.heap.size := by first | exact hb.size | exact Nat.le_trans (Nat.le_of_eq (World.size_alloc ..).symm) hb.size
      clear hb
      go_wp2_with fail
      refine hK _ _ ⟨⟨_, e0⟩, rfl⟩ ?_
      clear hK K
      (refine Mix.wpMix_read (by rfl) ?_; go_big_quiet_step (fail); refine wpQuiet_nil ?_)
      refine Mix.wpMix_chg (by rfl) (fun K hK => ?_)
      go_wp2_with fail
      refine (toPartial_c _ _ _ _ _ _ _ (by exact ((P1.out.rd).below e0)) (by omega)).mono ?_
      rintro e ua13 ⟨g019, rfl, q20, hb⟩
      have e_q18 := below_chain e_q18 e_q18.size hb
      have e0 := below_chain e0 e0.size hb
      have bk := bk.keep hb
      have e_q20 : Below ua13.heap.size ua13 ua13 := below_size
      have zua13 : ua11.heap.size ≤ ua13.heap.size := by first | exact hb.size | exact Nat.le_trans (Nat.le_of_eq (World.size_alloc ..).symm) hb.size
      clear hb
      go_wp2_with fail
      refine hK _ _ ⟨⟨_, e0⟩, rfl⟩ ?_
      clear hK K
      (refine Mix.wpMix_pure (by rfl) ?_; go_big_quiet_step (fail); refine wpQuiet_nil ?_)
      refine Mix.wpMix_chg (by rfl) (fun K hK => ?_)
      go_wp2_with fail
      refine (sForwardPartial_c _ _ _ _ _ _ _ _ _ _ _ _ _ _ (by exact (q18.below e_q18).rd) (by exact (q20.below e_q20).rd) (by omega) (by omega)).mono ?_
      rintro e ua15 ⟨A11, n12, c13, rfl, q15, l16, hb⟩
      have e_q18 := below_chain e_q18 e_q18.size hb
      have e_q20 := below_chain e_q20 e_q20.size hb
      have e0 := below_chain e0 e0.size hb
      have bk := bk.keep hb
      have e_q15 : Below ua15.heap.size ua15 ua15 := below_size
      have zua15 : ua13.heap.size ≤ ua15.heap.size := by first | exact hb.size | exact Nat.le_trans (Nat.le_of_eq (World.size_alloc ..).symm) hb.size
      have q15 : WrS ua15 (ua13.heap.size) ua15.heap.size [sgI A11 n12 (fwR sy0 st0 xs0 st1 at1 xs1 x2).1.2.2] := by first | exact q15.wider (Nat.le_refl _) (Nat.le_refl _) | exact q15.wider (Nat.le_of_eq (World.size_alloc ..).symm) (Nat.le_refl _)
      clear hb
      go_wp2_with fail
      refine hK _ _ ⟨⟨_, e0⟩, rfl⟩ ?_
      clear hK K
      (refine Mix.wpMix_pure (by rfl) ?_; go_big_quiet_step (fail); refine wpQuiet_nil ?_)
      (refine Mix.wpMix_pure (by rfl) ?_; go_big_quiet_step (fail); refine wpQuiet_nil ?_)
      (refine Mix.wpMix_pure (by rfl) ?_; go_big_quiet_step (fail); refine wpQuiet_nil ?_)
      (refine Mix.wpMix_pure (by rfl) ?_; go_big_quiet_step (fail); refine wpQuiet_nil ?_)
      (refine Mix.wpMix_pure (by rfl) ?_; go_big_quiet_step (fail); refine wpQuiet_nil ?_)
      repeat (first | (refine Mix.wpMix_read (by rfl) ?_; go_big_quiet_step (fail); refine wpQuiet_nil ?_) | (refine Mix.wpMix_pure (by rfl) ?_; go_big_quiet_step (fail); refine wpQuiet_nil ?_))
      have d0 := bk.cell 0; have f0 := bk.frozen 0
      simp at d0
      have d1 := bk.cell 1; have f1 := bk.frozen 1
      simp at d1
      have d2 := bk.cell 2; have f2 := bk.frozen 2
      simp at d2
      refine Mix.wpMix_tail (by rfl) (fun K hK => ?_)
      go_wp2_with fail
      refine hK _ _ ?_
      clear hK K
      repeat (first | (refine Mix.wpMix_read (by rfl) ?_; go_big_quiet_step (fail); refine wpQuiet_nil ?_) | (refine Mix.wpMix_pure (by rfl) ?_; go_big_quiet_step (fail); refine wpQuiet_nil ?_))
      (refine Mix.wpMix_nil ?_; try simp only [Exit.then])
      go_wp2_with fail
      go_meet
      have bk2 := (((bk.set_ 0 (.int .i64 (fwR sy0 st0 xs0 st1 at1 xs1 x2).1.1)).set_ 1 (.int .i64 (fwR sy0 st0 xs0 st1 at1 xs1 x2).1.2.1)).set_ 2 (.slice A11 n12 c13))
      refine ⟨w2.heap.size, A11, n12, c13, rfl, rfl, rfl, rfl, (by have := bk2.cell 0; first | exact this | (simp; done) | simpa using this), (by have := bk2.cell 1; first | exact this | (simp; done) | simpa using this), (by have := bk2.cell 2; first | exact this | (simp; done) | simpa using this), ?_, l16, ?_, ?_⟩
      · first | exact (q15.alloc _).wider (by first | omega | exact Nat.le_refl _ | (simp; done) | (simp; omega)) (by first | omega | exact Nat.le_refl _ | (simp; done) | (simp; omega)) | exact (((q15.set_far (.inl (by first | omega | exact Nat.le_refl _ | (simp; done) | (simp; omega))) _).set_far (.inl (by first | omega | exact Nat.le_refl _ | (simp; done) | (simp; omega))) _).set_far (.inl (by first | omega | exact Nat.le_refl _ | (simp; done) | (simp; omega))) _).wider (by first | omega | exact Nat.le_refl _ | (simp; done) | (simp; omega)) (by first | omega | exact Nat.le_refl _ | (simp; done) | (simp; omega))
      · exact (by first | omega | exact Nat.le_refl _ | (simp; done) | (simp; omega))
      · first | exact (by have hzz := (e0).size; repeat' (first | (with_reducible exact e0) | (with_reducible refine Below.alloc ?_ ?_ _) | (with_reducible refine Below.setCell ?_ ?_ _) | (with_reducible refine below_drew ?_) | omega | (simp; done) | (simp; omega))) | exact (by have hzz := (e0p).size; repeat' (first | (with_reducible exact e0p) | (with_reducible refine Below.alloc ?_ ?_ _) | (with_reducible refine Below.setCell ?_ ?_ _) | (with_reducible refine below_drew ?_) | omega | (simp; done) | (simp; omega)))
    refine Mix.wpMix_chg (by rfl) (fun K hK => ?_)
    go_wp2_with fail
    refine (toMachine_c _ _ _ _ _ _ _ (by exact ((P0.out.rd).below e0)) (by omega)).mono ?_
    rintro e u1 ⟨g021, rfl, q22, hb⟩
    have e0 := below_chain e0 e0.size hb
    have e_q22 : Below u1.heap.size u1 u1 := below_size
    have zu1 : w2.heap.size ≤ u1.heap.size := by first | exact hb.size | exact Nat.le_trans (Nat.le_of_eq (World.size_alloc ..).symm) hb.size
    clear hb
    go_wp2_with fail
    refine hK _ _ ⟨⟨_, e0⟩, rfl⟩ ?_
    clear hK K
    refine Mix.wpMix_nil ?_
    refine Mix.wpF_3 ?_
    (refine Mix.wpMix_read (by rfl) ?_; go_big_quiet_step (fail); refine wpQuiet_nil ?_)
    refine Mix.wpMix_nil ?_
    refine Mix.wpF_1 ?_ ?_
    · simp only [List.cons_append, List.nil_append]
      have e0p := e0
      refine Mix.wpMix_chg (by rfl) (fun K hK => ?_)
      go_wp2_with fail
      refine hK _ _ ⟨⟨_, e0.alloc e0.size _⟩, rfl⟩ ?_
      clear hK K
      have e_q22 := e_q22.alloc e_q22.size (.cells #[.int .i64 0, .int .i64 0, .slice none 0 0] 57)
      have bk : Blk (u1.alloc (.cells #[.int .i64 0, .int .i64 0, .slice none 0 0] 57)) u1.heap.size 57 #[.int .i64 0, .int .i64 0, .slice none 0 0] := Blk.new _ _ _
      have e0 := e0.alloc e0.size (.cells #[.int .i64 0, .int .i64 0, .slice none 0 0] 57)
      refine Mix.wpMix_chg (by rfl) (fun K hK => ?_)
      go_wp2_with fail
      refine (toPartial_c _ _ _ _ _ _ _ (by exact ((P1.out.rd).below e0)) (by omega)).mono ?_
      rintro e ua33 ⟨g023, rfl, q24, hb⟩
      have e_q22 := below_chain e_q22 e_q22.size hb
      have e0 := below_chain e0 e0.size hb
      have bk := bk.keep hb
      have e_q24 : Below ua33.heap.size ua33 ua33 := below_size
      have zua33 : u1.heap.size + 1 ≤ ua33.heap.size := by first | exact hb.size | exact Nat.le_trans (Nat.le_of_eq (World.size_alloc ..).symm) hb.size
      clear hb
      go_wp2_with fail
      refine hK _ _ ⟨⟨_, e0⟩, rfl⟩ ?_
      clear hK K
      (refine Mix.wpMix_pure (by rfl) ?_; go_big_quiet_step (fail); refine wpQuiet_nil ?_)
      refine Mix.wpMix_chg (by rfl) (fun K hK => ?_)
      go_wp2_with fail
      refine (sForwardPartial_c _ _ _ _ _ _ _ _ _ _ _ _ _ _ (by exact (q22.below e_q22).rd) (by exact (q24.below e_q24).rd) (by omega) (by omega)).mono ?_
      rintro e ua35 ⟨A11, n12, c13, rfl, q15, l16, hb⟩
      have e_q22 := below_chain e_q22 e_q22.size hb
      have e_q24 := below_chain e_q24 e_q24.size hb
      have e0 := below_chain e0 e0.size hb
      have bk := bk.keep hb
      have e_q15 : Below ua35.heap.size ua35 ua35 := below_size
      have zua35 : ua33.heap.size ≤ ua35.heap.size := by first | exact hb.size | exact Nat.le_trans (Nat.le_of_eq (World.size_alloc ..).symm) hb.size
      have q15 : WrS ua35 (ua33.heap.size) ua35.heap.size [sgI A11 n12 (fwR sy0 st0 xs0 st1 at1 xs1 x2).1.2.2] := by first | exact q15.wider (Nat.le_refl _) (Nat.le_refl _) | exact q15.wider (Nat.le_of_eq (World.size_alloc ..).symm) (Nat.le_refl _)
      clear hb
      go_wp2_with fail
      refine hK _ _ ⟨⟨_, e0⟩, rfl⟩ ?_
      clear hK K
      (refine Mix.wpMix_pure (by rfl) ?_; go_big_quiet_step (fail); refine wpQuiet_nil ?_)
      (refine Mix.wpMix_pure (by rfl) ?_; go_big_quiet_step (fail); refine wpQuiet_nil ?_)
      (refine Mix.wpMix_pure (by rfl) ?_; go_big_quiet_step (fail); refine wpQuiet_nil ?_)
      (refine Mix.wpMix_pure (by rfl) ?_; go_big_quiet_step (fail); refine wpQuiet_nil ?_)
      (refine Mix.wpMix_pure (by rfl) ?_; go_big_quiet_step (fail); refine wpQuiet_nil ?_)
      repeat (first | (refine Mix.wpMix_read (by rfl) ?_; go_big_quiet_step (fail); refine wpQuiet_nil ?_) | (refine Mix.wpMix_pure (by rfl) ?_; go_big_quiet_step (fail); refine wpQuiet_nil ?_))
      have d0 := bk.cell 0; have f0 := bk.frozen 0
      simp at d0
      have d1 := bk.cell 1; have f1 := bk.frozen 1
      simp at d1
      have d2 := bk.cell 2; have f2 := bk.frozen 2
      simp at d2
      refine Mix.wpMix_tail (by rfl) (fun K hK => ?_)
      go_wp2_with fail
      refine hK _ _ ?_
      clear hK K
      repeat (first | (refine Mix.wpMix_read (by rfl) ?_; go_big_quiet_step (fail); refine wpQuiet_nil ?_) | (refine Mix.wpMix_pure (by rfl) ?_; go_big_quiet_step (fail); refine wpQuiet_nil ?_))
      (refine Mix.wpMix_nil ?_; try simp only [Exit.then])
      go_wp2_with fail
      go_meet
      have bk2 := (((bk.set_ 0 (.int .i64 (fwR sy0 st0 xs0 st1 at1 xs1 x2).1.1)).set_ 1 (.int .i64 (fwR sy0 st0 xs0 st1 at1 xs1 x2).1.2.1)).set_ 2 (.slice A11 n12 c13))
      refine ⟨u1.heap.size, A11, n12, c13, rfl, rfl, rfl, rfl, (by have := bk2.cell 0; first | exact this | (simp; done) | simpa using this), (by have := bk2.cell 1; first | exact this | (simp; done) | simpa using this), (by have := bk2.cell 2; first | exact this | (simp; done) | simpa using this), ?_, l16, ?_, ?_⟩
      · first | exact (q15.alloc _).wider (by first | omega | exact Nat.le_refl _ | (simp; done) | (simp; omega)) (by first | omega | exact Nat.le_refl _ | (simp; done) | (simp; omega)) | exact (((q15.set_far (.inl (by first | omega | exact Nat.le_refl _ | (simp; done) | (simp; omega))) _).set_far (.inl (by first | omega | exact Nat.le_refl _ | (simp; done) | (simp; omega))) _).set_far (.inl (by first | omega | exact Nat.le_refl _ | (simp; done) | (simp; omega))) _).wider (by first | omega | exact Nat.le_refl _ | (simp; done) | (simp; omega)) (by first | omega | exact Nat.le_refl _ | (simp; done) | (simp; omega))
      · exact (by first | omega | exact Nat.le_refl _ | (simp; done) | (simp; omega))
      · first | exact (by have hzz := (e0).size; repeat' (first | (with_reducible exact e0) | (with_reducible refine Below.alloc ?_ ?_ _) | (with_reducible refine Below.setCell ?_ ?_ _) | (with_reducible refine below_drew ?_) | omega | (simp; done) | (simp; omega))) | exact (by have hzz := (e0p).size; repeat' (first | (with_reducible exact e0p) | (with_reducible refine Below.alloc ?_ ?_ _) | (with_reducible refine Below.setCell ?_ ?_ _) | (with_reducible refine below_drew ?_) | omega | (simp; done) | (simp; omega)))
    refine Mix.wpMix_chg (by rfl) (fun K hK => ?_)
    go_wp2_with fail
    refine (toPartial_c _ _ _ _ _ _ _ (by exact ((P1.out.rd).below e0)) (by omega)).mono ?_
    rintro e u3 ⟨g025, rfl, q26, hb⟩
    have e_q22 := below_chain e_q22 e_q22.size hb
    have e0 := below_chain e0 e0.size hb
    have e_q26 : Below u3.heap.size u3 u3 := below_size
    have zu3 : u1.heap.size ≤ u3.heap.size := by first | exact hb.size | exact Nat.le_trans (Nat.le_of_eq (World.size_alloc ..).symm) hb.size
    clear hb
    go_wp2_with fail
    refine hK _ _ ⟨⟨_, e0⟩, rfl⟩ ?_
    clear hK K
    refine Mix.wpMix_nil ?_
    refine Mix.wpF_0 ?_
    (refine Mix.wpMix_pure (by rfl) ?_; go_big_quiet_step (fail); refine wpQuiet_nil ?_)
    refine Mix.wpMix_nil ?_
    refine Mix.wpF_1 ?_ ?_
    · simp only [List.cons_append, List.nil_append]
      have e0p := e0
      refine Mix.wpMix_chg (by rfl) (fun K hK => ?_)
      go_wp2_with fail
      refine hK _ _ ⟨⟨_, e0.alloc e0.size _⟩, rfl⟩ ?_
      clear hK K
      have e_q22 := e_q22.alloc e_q22.size (.cells #[.int .i64 0, .int .i64 0, .slice none 0 0] 57)
      have e_q26 := e_q26.alloc e_q26.size (.cells #[.int .i64 0, .int .i64 0, .slice none 0 0] 57)
      have bk : Blk (u3.alloc (.cells #[.int .i64 0, .int .i64 0, .slice none 0 0] 57)) u3.heap.size 57 #[.int .i64 0, .int .i64 0, .slice none 0 0] := Blk.new _ _ _
      have e0 := e0.alloc e0.size (.cells #[.int .i64 0, .int .i64 0, .slice none 0 0] 57)
      refine Mix.wpMix_chg (by rfl) (fun K hK => ?_)
      go_wp2_with fail
      refine (sForwardPartial_c _ _ _ _ _ _ _ _ _ _ _ _ _ _ (by exact (q22.below e_q22).rd) (by exact (q26.below e_q26).rd) (by omega) (by omega)).mono ?_
      rintro e ua55 ⟨A11, n12, c13, rfl, q15, l16, hb⟩
      have e_q22 := below_chain e_q22 e_q22.size hb
      have e_q26 := below_chain e_q26 e_q26.size hb
      have e0 := below_chain e0 e0.size hb
      have bk := bk.keep hb
      have e_q15 : Below ua55.heap.size ua55 ua55 := below_size
      have zua55 : u3.heap.size + 1 ≤ ua55.heap.size := by first | exact hb.size | exact Nat.le_trans (Nat.le_of_eq (World.size_alloc ..).symm) hb.size
      have q15 : WrS ua55 (u3.heap.size + 1) ua55.heap.size [sgI A11 n12 (fwR sy0 st0 xs0 st1 at1 xs1 x2).1.2.2] := by first | exact q15.wider (Nat.le_refl _) (Nat.le_refl _) | exact q15.wider (Nat.le_of_eq (World.size_alloc ..).symm) (Nat.le_refl _)
      clear hb
      go_wp2_with fail
      refine hK _ _ ⟨⟨_, e0⟩, rfl⟩ ?_
      clear hK K
      (refine Mix.wpMix_pure (by rfl) ?_; go_big_quiet_step (fail); refine wpQuiet_nil ?_)
      (refine Mix.wpMix_pure (by rfl) ?_; go_big_quiet_step (fail); refine wpQuiet_nil ?_)
      (refine Mix.wpMix_pure (by rfl) ?_; go_big_quiet_step (fail); refine wpQuiet_nil ?_)
      (refine Mix.wpMix_pure (by rfl) ?_; go_big_quiet_step (fail); refine wpQuiet_nil ?_)
      (refine Mix.wpMix_pure (by rfl) ?_; go_big_quiet_step (fail); refine wpQuiet_nil ?_)
      repeat (first | (refine Mix.wpMix_read (by rfl) ?_; go_big_quiet_step (fail); refine wpQuiet_nil ?_) | (refine Mix.wpMix_pure (by rfl) ?_; go_big_quiet_step (fail); refine wpQuiet_nil ?_))
      have d0 := bk.cell 0; have f0 := bk.frozen 0
      simp at d0
      have d1 := bk.cell 1; have f1 := bk.frozen 1
      simp at d1
      have d2 := bk.cell 2; have f2 := bk.frozen 2
      simp at d2
      refine Mix.wpMix_tail (by rfl) (fun K hK => ?_)
      go_wp2_with fail
      refine hK _ _ ?_
      clear hK K
      repeat (first | (refine Mix.wpMix_read (by rfl) ?_; go_big_quiet_step (fail); refine wpQuiet_nil ?_) | (refine Mix.wpMix_pure (by rfl) ?_; go_big_quiet_step (fail); refine wpQuiet_nil ?_))
      (refine Mix.wpMix_nil ?_; try simp only [Exit.then])
      go_wp2_with fail
      go_meet
      have bk2 := (((bk.set_ 0 (.int .i64 (fwR sy0 st0 xs0 st1 at1 xs1 x2).1.1)).set_ 1 (.int .i64 (fwR sy0 st0 xs0 st1 at1 xs1 x2).1.2.1)).set_ 2 (.slice A11 n12 c13))
      refine ⟨u3.heap.size, A11, n12, c13, rfl, rfl, rfl, rfl, (by have := bk2.cell 0; first | exact this | (simp; done) | simpa using this), (by have := bk2.cell 1; first | exact this | (simp; done) | simpa using this), (by have := bk2.cell 2; first | exact this | (simp; done) | simpa using this), ?_, l16, ?_, ?_⟩
      · first | exact (q15.alloc _).wider (by first | omega | exact Nat.le_refl _ | (simp; done) | (simp; omega)) (by first | omega | exact Nat.le_refl _ | (simp; done) | (simp; omega)) | exact (((q15.set_far (.inl (by first | omega | exact Nat.le_refl _ | (simp; done) | (simp; omega))) _).set_far (.inl (by first | omega | exact Nat.le_refl _ | (simp; done) | (simp; omega))) _).set_far (.inl (by first | omega | exact Nat.le_refl _ | (simp; done) | (simp; omega))) _).wider (by first | omega | exact Nat.le_refl _ | (simp; done) | (simp; omega)) (by first | omega | exact Nat.le_refl _ | (simp; done) | (simp; omega))
      · exact (by first | omega | exact Nat.le_refl _ | (simp; done) | (simp; omega))
      · first | exact (by have hzz := (e0).size; repeat' (first | (with_reducible exact e0) | (with_reducible refine Below.alloc ?_ ?_ _) | (with_reducible refine Below.setCell ?_ ?_ _) | (with_reducible refine below_drew ?_) | omega | (simp; done) | (simp; omega))) | exact (by have hzz := (e0p).size; repeat' (first | (with_reducible exact e0p) | (with_reducible refine Below.alloc ?_ ?_ _) | (with_reducible refine Below.setCell ?_ ?_ _) | (with_reducible refine below_drew ?_) | omega | (simp; done) | (simp; omega)))
    refine Mix.wpMix_chg (by rfl) (fun K hK => ?_)
    go_wp2_with fail
    refine (sForwardPartial_c _ _ _ _ _ _ _ _ _ _ _ _ _ _ (by exact (q22.below e_q22).rd) (by exact (q26.below e_q26).rd) (by omega) (by omega)).mono ?_
    rintro e u5 ⟨A11, n12, c13, rfl, q15, l16, hb⟩
    have e_q22 := below_chain e_q22 e_q22.size hb
    have e_q26 := below_chain e_q26 e_q26.size hb
    have e0 := below_chain e0 e0.size hb
    have e_q15 : Below u5.heap.size u5 u5 := below_size
    have zu5 : u3.heap.size ≤ u5.heap.size := by first | exact hb.size | exact Nat.le_trans (Nat.le_of_eq (World.size_alloc ..).symm) hb.size
    have q15 : WrS u5 (u3.heap.size) u5.heap.size [sgI A11 n12 (fwR sy0 st0 xs0 st1 at1 xs1 x2).1.2.2] := by first | exact q15.wider (Nat.le_refl _) (Nat.le_refl _) | exact q15.wider (Nat.le_of_eq (World.size_alloc ..).symm) (Nat.le_refl _)
    clear hb
    go_wp2_with fail
    refine hK _ _ ⟨⟨_, e0⟩, rfl⟩ ?_
    clear hK K
    refine Mix.wpMix_nil ?_
    refine Mix.wpF_0 ?_
    (refine Mix.wpMix_pure (by rfl) ?_; go_big_quiet_step (fail); refine wpQuiet_nil ?_)
    refine Mix.wpMix_nil ?_
    refine Mix.wpF_0 ?_
    (refine Mix.wpMix_pure (by rfl) ?_; go_big_quiet_step (fail); refine wpQuiet_nil ?_)
    refine Mix.wpMix_nil ?_
    refine Mix.wpF_0 ?_
    (refine Mix.wpMix_pure (by rfl) ?_; go_big_quiet_step (fail); refine wpQuiet_nil ?_)
    refine Mix.wpMix_nil ?_
    refine Mix.wpF_0 ?_
    (refine Mix.wpMix_pure (by rfl) ?_; go_big_quiet_step (fail); refine wpQuiet_nil ?_)
    refine Mix.wpMix_nil ?_
    refine Mix.wpF_0 ?_
    (refine Mix.wpMix_pure (by rfl) ?_; go_big_quiet_step (fail); refine wpQuiet_nil ?_)
    refine Mix.wpMix_nil ?_
    refine Mix.wpF_nil ?_
    have e0p := e0
    refine Mix.wpMix_chg (by rfl) (fun K hK => ?_)
    go_wp2_with fail
    refine hK _ _ ⟨⟨_, e0.alloc e0.size _⟩, rfl⟩ ?_
    clear hK K
    have e_q22 := e_q22.alloc e_q22.size (.cells #[.int .i64 0, .int .i64 0, .slice none 0 0] 57)
    have e_q26 := e_q26.alloc e_q26.size (.cells #[.int .i64 0, .int .i64 0, .slice none 0 0] 57)
    have e_q15 := e_q15.alloc e_q15.size (.cells #[.int .i64 0, .int .i64 0, .slice none 0 0] 57)
    have bk : Blk (u5.alloc (.cells #[.int .i64 0, .int .i64 0, .slice none 0 0] 57)) u5.heap.size 57 #[.int .i64 0, .int .i64 0, .slice none 0 0] := Blk.new _ _ _
    have e0 := e0.alloc e0.size (.cells #[.int .i64 0, .int .i64 0, .slice none 0 0] 57)
    repeat (first | (refine Mix.wpMix_read (by rfl) ?_; go_big_quiet_step (fail); refine wpQuiet_nil ?_) | (refine Mix.wpMix_pure (by rfl) ?_; go_big_quiet_step (fail); refine wpQuiet_nil ?_))
    have d0 := bk.cell 0; have f0 := bk.frozen 0
    simp at d0
    have d1 := bk.cell 1; have f1 := bk.frozen 1
    simp at d1
    have d2 := bk.cell 2; have f2 := bk.frozen 2
    simp at d2
    refine Mix.wpMix_tail (by rfl) (fun K hK => ?_)
    go_wp2_with fail
    refine hK _ _ ?_
    clear hK K
    repeat (first | (refine Mix.wpMix_read (by rfl) ?_; go_big_quiet_step (fail); refine wpQuiet_nil ?_) | (refine Mix.wpMix_pure (by rfl) ?_; go_big_quiet_step (fail); refine wpQuiet_nil ?_))
    (refine Mix.wpMix_nil ?_; try simp only [Exit.then])
    go_wp2_with fail
    go_meet
    have bk2 := (((bk.set_ 0 (.int .i64 (fwR sy0 st0 xs0 st1 at1 xs1 x2).1.1)).set_ 1 (.int .i64 (fwR sy0 st0 xs0 st1 at1 xs1 x2).1.2.1)).set_ 2 (.slice A11 n12 c13))
    refine ⟨u5.heap.size, A11, n12, c13, rfl, rfl, rfl, rfl, (by have := bk2.cell 0; first | exact this | (simp; done) | simpa using this), (by have := bk2.cell 1; first | exact this | (simp; done) | simpa using this), (by have := bk2.cell 2; first | exact this | (simp; done) | simpa using this), ?_, l16, ?_, ?_⟩
    · first | exact (q15.alloc _).wider (by first | omega | exact Nat.le_refl _ | (simp; done) | (simp; omega)) (by first | omega | exact Nat.le_refl _ | (simp; done) | (simp; omega)) | exact (((q15.set_far (.inl (by first | omega | exact Nat.le_refl _ | (simp; done) | (simp; omega))) _).set_far (.inl (by first | omega | exact Nat.le_refl _ | (simp; done) | (simp; omega))) _).set_far (.inl (by first | omega | exact Nat.le_refl _ | (simp; done) | (simp; omega))) _).wider (by first | omega | exact Nat.le_refl _ | (simp; done) | (simp; omega)) (by first | omega | exact Nat.le_refl _ | (simp; done) | (simp; omega))
    · exact (by first | omega | exact Nat.le_refl _ | (simp; done) | (simp; omega))
    · first | exact (by have hzz := (e0).size; repeat' (first | (with_reducible exact e0) | (with_reducible refine Below.alloc ?_ ?_ _) | (with_reducible refine Below.setCell ?_ ?_ _) | (with_reducible refine below_drew ?_) | omega | (simp; done) | (simp; omega))) | exact (by have hzz := (e0p).size; repeat' (first | (with_reducible exact e0p) | (with_reducible refine Below.alloc ?_ ?_ _) | (with_reducible refine Below.setCell ?_ ?_ _) | (with_reducible refine below_drew ?_) | omega | (simp; done) | (simp; omega)))
  case rest =>
    obtain ⟨g14, A11, n12, c13, rfl, rfl, rfl, rfl, nc0, nc1, nc2, q15, l16, hgg14, hb'⟩ := hcut
    obtain ⟨w3, rfl⟩ : ∃ w3 : World, w3 = wc := ⟨_, rfl⟩
    have z3 := hb'.size
    have hlg14 : g14 < w3.heap.size := World.block_lt_of_cell? w3 _ nc0
    have c3_a0_0 : w3.cell? ⟨w.heap.size, 0, none⟩ = some (.int .i64 sy0) := keepc hb' c2_a0_0
    clear c2_a0_0 ac2_a0_0
    have c3_a0_1 : w3.cell? ⟨w.heap.size, 1, none⟩ = some (.int .i64 st0) := keepc hb' c2_a0_1
    clear c2_a0_1 ac2_a0_1
    have c3_a0_2 : w3.cell? ⟨w.heap.size, 2, none⟩ = some (.slice A0 n0 c0) := keepc hb' c2_a0_2
    clear c2_a0_2 ac2_a0_2
    have c3_a1_0 : w3.cell? ⟨(w.heap.size + 1), 0, none⟩ = some (.int .i64 st1) := keepc hb' c2_a1_0
    clear c2_a1_0 ac2_a1_0
    have c3_a1_1 : w3.cell? ⟨(w.heap.size + 1), 1, none⟩ = some (.int .i64 at1) := keepc hb' c2_a1_1
    clear c2_a1_1 ac2_a1_1
    have c3_a1_2 : w3.cell? ⟨(w.heap.size + 1), 2, none⟩ = some (.slice A1 n1 c1) := keepc hb' c2_a1_2
    clear c2_a1_2 ac2_a1_2
    have c3_o27_0 := nc0; clear nc0
    have c3_o27_1 := nc1; clear nc1
    have c3_o27_2 := nc2; clear nc2
    have ac3_a0_0 := fun o => keepa o c3_a0_0
    have ac3_a0_1 := fun o => keepa o c3_a0_1
    have ac3_a0_2 := fun o => keepa o c3_a0_2
    have ac3_a1_0 := fun o => keepa o c3_a1_0
    have ac3_a1_1 := fun o => keepa o c3_a1_1
    have ac3_a1_2 := fun o => keepa o c3_a1_2
    have ac3_o27_0 := fun o => keepa o c3_o27_0
    have ac3_o27_1 := fun o => keepa o c3_o27_1
    have ac3_o27_2 := fun o => keepa o c3_o27_2
    have rP0 := P0.out.below hb'; clear P0; have P0 := Lib.hid rP0; clear rP0
    have rP1 := P1.out.below hb'; clear P1; have P1 := Lib.hid rP1; clear rP1
    have rB := below_chain B.out (by omega) hb'; clear B; have B := Lib.hid rB; clear rB hb'
    have Fo27 := Lib.hid q15; clear q15
    go_wp2_with fail
    refine (toMachine_c _ _ _ _ _ _ _ (by exact (P0.out.rd)) (by omega)).mono ?_
    rintro e w4 ⟨g028, rfl, q4, hb⟩
    have hb' : Below w3.heap.size w3 w4 := (by first | (with_reducible exact hb) | (with_reducible exact up1 hb) | (with_reducible exact up2 hb) | (with_reducible exact up3 hb) | (with_reducible exact up4 hb) | (with_reducible exact below_of_drew hb) | (with_reducible exact below_of_drew (up1 hb)))
    have z4 := hb'.size
    have c4_a0_0 : w4.cell? ⟨w.heap.size, 0, none⟩ = some (.int .i64 sy0) := keepc hb' c3_a0_0
    clear c3_a0_0 ac3_a0_0
    have c4_a0_1 : w4.cell? ⟨w.heap.size, 1, none⟩ = some (.int .i64 st0) := keepc hb' c3_a0_1
    clear c3_a0_1 ac3_a0_1
    have c4_a0_2 : w4.cell? ⟨w.heap.size, 2, none⟩ = some (.slice A0 n0 c0) := keepc hb' c3_a0_2
    clear c3_a0_2 ac3_a0_2
    have c4_a1_0 : w4.cell? ⟨(w.heap.size + 1), 0, none⟩ = some (.int .i64 st1) := keepc hb' c3_a1_0
    clear c3_a1_0 ac3_a1_0
    have c4_a1_1 : w4.cell? ⟨(w.heap.size + 1), 1, none⟩ = some (.int .i64 at1) := keepc hb' c3_a1_1
    clear c3_a1_1 ac3_a1_1
    have c4_a1_2 : w4.cell? ⟨(w.heap.size + 1), 2, none⟩ = some (.slice A1 n1 c1) := keepc hb' c3_a1_2
    clear c3_a1_2 ac3_a1_2
    have c4_o27_0 : w4.cell? ⟨g14, 0, none⟩ = some (.int .i64 (fwR sy0 st0 xs0 st1 at1 xs1 x2).1.1) := keepc hb' c3_o27_0
    clear c3_o27_0 ac3_o27_0
    have c4_o27_1 : w4.cell? ⟨g14, 1, none⟩ = some (.int .i64 (fwR sy0 st0 xs0 st1 at1 xs1 x2).1.2.1) := keepc hb' c3_o27_1
    clear c3_o27_1 ac3_o27_1
    have c4_o27_2 : w4.cell? ⟨g14, 2, none⟩ = some (.slice A11 n12 c13) := keepc hb' c3_o27_2
    clear c3_o27_2 ac3_o27_2
    have ac4_a0_0 := fun o => keepa o c4_a0_0
    have ac4_a0_1 := fun o => keepa o c4_a0_1
    have ac4_a0_2 := fun o => keepa o c4_a0_2
    have ac4_a1_0 := fun o => keepa o c4_a1_0
    have ac4_a1_1 := fun o => keepa o c4_a1_1
    have ac4_a1_2 := fun o => keepa o c4_a1_2
    have ac4_o27_0 := fun o => keepa o c4_o27_0
    have ac4_o27_1 := fun o => keepa o c4_o27_1
    have ac4_o27_2 := fun o => keepa o c4_o27_2
    have rP0 := P0.out.below hb'; clear P0; have P0 := Lib.hid rP0; clear rP0
    have rP1 := P1.out.below hb'; clear P1; have P1 := Lib.hid rP1; clear rP1
    have rFo27 := Fo27.out.below hb'; clear Fo27; have Fo27 := Lib.hid rFo27; clear rFo27
    have rB := below_chain B.out (by omega) hb'; clear B; have B := Lib.hid rB; clear rB
    have Fo29 := Lib.hid q4; clear q4
    clear hb hb'
    go_wp2_with fail
    refine (toPartial_c _ _ _ _ _ _ _ (by exact ((P1.out.rd).alloc _)) (by omega)).mono ?_
    rintro e w5 ⟨g030, rfl, q5, hb⟩
    try simp only [World.size_alloc] at q5
    have hb' : Below w4.heap.size w4 w5 := (by first | (with_reducible exact hb) | (with_reducible exact up1 hb) | (with_reducible exact up2 hb) | (with_reducible exact up3 hb) | (with_reducible exact up4 hb) | (with_reducible exact below_of_drew hb) | (with_reducible exact below_of_drew (up1 hb)))
    have z5 := hb'.size
    have c5_a0_0 : w5.cell? ⟨w.heap.size, 0, none⟩ = some (.int .i64 sy0) := keepc hb' c4_a0_0
    clear c4_a0_0 ac4_a0_0
    have c5_a0_1 : w5.cell? ⟨w.heap.size, 1, none⟩ = some (.int .i64 st0) := keepc hb' c4_a0_1
    clear c4_a0_1 ac4_a0_1
    have c5_a0_2 : w5.cell? ⟨w.heap.size, 2, none⟩ = some (.slice A0 n0 c0) := keepc hb' c4_a0_2
    clear c4_a0_2 ac4_a0_2
    have c5_a1_0 : w5.cell? ⟨(w.heap.size + 1), 0, none⟩ = some (.int .i64 st1) := keepc hb' c4_a1_0
    clear c4_a1_0 ac4_a1_0
    have c5_a1_1 : w5.cell? ⟨(w.heap.size + 1), 1, none⟩ = some (.int .i64 at1) := keepc hb' c4_a1_1
    clear c4_a1_1 ac4_a1_1
    have c5_a1_2 : w5.cell? ⟨(w.heap.size + 1), 2, none⟩ = some (.slice A1 n1 c1) := keepc hb' c4_a1_2
    clear c4_a1_2 ac4_a1_2
    have c5_o27_0 : w5.cell? ⟨g14, 0, none⟩ = some (.int .i64 (fwR sy0 st0 xs0 st1 at1 xs1 x2).1.1) := keepc hb' c4_o27_0
    clear c4_o27_0 ac4_o27_0
    have c5_o27_1 : w5.cell? ⟨g14, 1, none⟩ = some (.int .i64 (fwR sy0 st0 xs0 st1 at1 xs1 x2).1.2.1) := keepc hb' c4_o27_1
    clear c4_o27_1 ac4_o27_1
    have c5_o27_2 : w5.cell? ⟨g14, 2, none⟩ = some (.slice A11 n12 c13) := keepc hb' c4_o27_2
    clear c4_o27_2 ac4_o27_2
    have c5_o29_0 : w5.cell? ⟨w4.heap.size, 0, none⟩ = some (.int .i64 sy0) := keepc hb (by first | (simp; done) | (rw [World.cell?_alloc_past _ _ _ (by simp <;> omega)]; simp; done) | (rw [World.cell?_alloc_past _ _ _ (by simp <;> omega), World.cell?_alloc_past _ _ _ (by simp <;> omega)]; simp; done) | (rw [World.cell?_alloc_past _ _ _ (by simp <;> omega), World.cell?_alloc_past _ _ _ (by simp <;> omega), World.cell?_alloc_past _ _ _ (by simp <;> omega)]; simp; done) | (rw [World.cell?_alloc_at _ _ _ _ (by simp)]; simp; done) | (rw [World.cell?_alloc_past _ _ _ (by simp <;> omega), World.cell?_alloc_at _ _ _ _ (by simp)]; simp; done) | (rw [World.cell?_alloc_past _ _ _ (by simp <;> omega), World.cell?_alloc_past _ _ _ (by simp <;> omega), World.cell?_alloc_at _ _ _ _ (by simp)]; simp; done) | (rw [World.cell?_alloc_past _ _ _ (by simp <;> omega), World.cell?_alloc_past _ _ _ (by simp <;> omega), World.cell?_alloc_past _ _ _ (by simp <;> omega), World.cell?_alloc_at _ _ _ _ (by simp)]; simp; done))
    have hl_c5_o29_0 : w4.heap.size < w5.heap.size := World.block_lt_of_cell? w5 _ c5_o29_0
    have c5_o29_1 : w5.cell? ⟨w4.heap.size, 1, none⟩ = some (.int .i64 st0) := keepc hb (by first | (simp; done) | (rw [World.cell?_alloc_past _ _ _ (by simp <;> omega)]; simp; done) | (rw [World.cell?_alloc_past _ _ _ (by simp <;> omega), World.cell?_alloc_past _ _ _ (by simp <;> omega)]; simp; done) | (rw [World.cell?_alloc_past _ _ _ (by simp <;> omega), World.cell?_alloc_past _ _ _ (by simp <;> omega), World.cell?_alloc_past _ _ _ (by simp <;> omega)]; simp; done) | (rw [World.cell?_alloc_at _ _ _ _ (by simp)]; simp; done) | (rw [World.cell?_alloc_past _ _ _ (by simp <;> omega), World.cell?_alloc_at _ _ _ _ (by simp)]; simp; done) | (rw [World.cell?_alloc_past _ _ _ (by simp <;> omega), World.cell?_alloc_past _ _ _ (by simp <;> omega), World.cell?_alloc_at _ _ _ _ (by simp)]; simp; done) | (rw [World.cell?_alloc_past _ _ _ (by simp <;> omega), World.cell?_alloc_past _ _ _ (by simp <;> omega), World.cell?_alloc_past _ _ _ (by simp <;> omega), World.cell?_alloc_at _ _ _ _ (by simp)]; simp; done))
    have c5_o29_2 : w5.cell? ⟨w4.heap.size, 2, none⟩ = some (.slice (some ⟨g028, 0, none⟩) n0 n0) := keepc hb (by first | (simp; done) | (rw [World.cell?_alloc_past _ _ _ (by simp <;> omega)]; simp; done) | (rw [World.cell?_alloc_past _ _ _ (by simp <;> omega), World.cell?_alloc_past _ _ _ (by simp <;> omega)]; simp; done) | (rw [World.cell?_alloc_past _ _ _ (by simp <;> omega), World.cell?_alloc_past _ _ _ (by simp <;> omega), World.cell?_alloc_past _ _ _ (by simp <;> omega)]; simp; done) | (rw [World.cell?_alloc_at _ _ _ _ (by simp)]; simp; done) | (rw [World.cell?_alloc_past _ _ _ (by simp <;> omega), World.cell?_alloc_at _ _ _ _ (by simp)]; simp; done) | (rw [World.cell?_alloc_past _ _ _ (by simp <;> omega), World.cell?_alloc_past _ _ _ (by simp <;> omega), World.cell?_alloc_at _ _ _ _ (by simp)]; simp; done) | (rw [World.cell?_alloc_past _ _ _ (by simp <;> omega), World.cell?_alloc_past _ _ _ (by simp <;> omega), World.cell?_alloc_past _ _ _ (by simp <;> omega), World.cell?_alloc_at _ _ _ _ (by simp)]; simp; done))
    have ac5_a0_0 := fun o => keepa o c5_a0_0
    have ac5_a0_1 := fun o => keepa o c5_a0_1
    have ac5_a0_2 := fun o => keepa o c5_a0_2
    have ac5_a1_0 := fun o => keepa o c5_a1_0
    have ac5_a1_1 := fun o => keepa o c5_a1_1
    have ac5_a1_2 := fun o => keepa o c5_a1_2
    have ac5_o27_0 := fun o => keepa o c5_o27_0
    have ac5_o27_1 := fun o => keepa o c5_o27_1
    have ac5_o27_2 := fun o => keepa o c5_o27_2
    have ac5_o29_0 := fun o => keepa o c5_o29_0
    have ac5_o29_1 := fun o => keepa o c5_o29_1
    have ac5_o29_2 := fun o => keepa o c5_o29_2
    have rP0 := P0.out.below hb'; clear P0; have P0 := Lib.hid rP0; clear rP0
    have rP1 := P1.out.below hb'; clear P1; have P1 := Lib.hid rP1; clear rP1
    have rFo27 := Fo27.out.below hb'; clear Fo27; have Fo27 := Lib.hid rFo27; clear rFo27
    have rFo29 := Fo29.out.below hb'; clear Fo29; have Fo29 := Lib.hid rFo29; clear rFo29
    have rB := below_chain B.out (by omega) hb'; clear B; have B := Lib.hid rB; clear rB
    have Fo31 := Lib.hid q5; clear q5
    clear hb hb'
    go_wp2_with fail
    refine (iForwardPartial_c _ _ _ _ _ _ _ _ _ _ _ _ _ _ (by exact ((Fo29.out.rd).alloc _)) (by exact ((Fo31.out.rd).alloc _)) (by omega) (by omega)).mono ?_
    rintro e w6 ⟨A32, n33, c34, rfl, q35, l36, hb⟩
    try simp only [World.size_alloc] at q35
    have hb' : Below w5.heap.size w5 w6 := (by first | (with_reducible exact hb) | (with_reducible exact up1 hb) | (with_reducible exact up2 hb) | (with_reducible exact up3 hb) | (with_reducible exact up4 hb) | (with_reducible exact below_of_drew hb) | (with_reducible exact below_of_drew (up1 hb)))
    have z6 := hb'.size
    have c6_a0_0 : w6.cell? ⟨w.heap.size, 0, none⟩ = some (.int .i64 sy0) := keepc hb' c5_a0_0
    clear c5_a0_0 ac5_a0_0
    have c6_a0_1 : w6.cell? ⟨w.heap.size, 1, none⟩ = some (.int .i64 st0) := keepc hb' c5_a0_1
    clear c5_a0_1 ac5_a0_1
    have c6_a0_2 : w6.cell? ⟨w.heap.size, 2, none⟩ = some (.slice A0 n0 c0) := keepc hb' c5_a0_2
    clear c5_a0_2 ac5_a0_2
    have c6_a1_0 : w6.cell? ⟨(w.heap.size + 1), 0, none⟩ = some (.int .i64 st1) := keepc hb' c5_a1_0
    clear c5_a1_0 ac5_a1_0
    have c6_a1_1 : w6.cell? ⟨(w.heap.size + 1), 1, none⟩ = some (.int .i64 at1) := keepc hb' c5_a1_1
    clear c5_a1_1 ac5_a1_1
    have c6_a1_2 : w6.cell? ⟨(w.heap.size + 1), 2, none⟩ = some (.slice A1 n1 c1) := keepc hb' c5_a1_2
    clear c5_a1_2 ac5_a1_2
    have c6_o27_0 : w6.cell? ⟨g14, 0, none⟩ = some (.int .i64 (fwR sy0 st0 xs0 st1 at1 xs1 x2).1.1) := keepc hb' c5_o27_0
    clear c5_o27_0 ac5_o27_0
    have c6_o27_1 : w6.cell? ⟨g14, 1, none⟩ = some (.int .i64 (fwR sy0 st0 xs0 st1 at1 xs1 x2).1.2.1) := keepc hb' c5_o27_1
    clear c5_o27_1 ac5_o27_1
    have c6_o27_2 : w6.cell? ⟨g14, 2, none⟩ = some (.slice A11 n12 c13) := keepc hb' c5_o27_2
    clear c5_o27_2 ac5_o27_2
    have c6_o29_0 : w6.cell? ⟨w4.heap.size, 0, none⟩ = some (.int .i64 sy0) := keepc hb' c5_o29_0
    clear c5_o29_0 ac5_o29_0
    have c6_o29_1 : w6.cell? ⟨w4.heap.size, 1, none⟩ = some (.int .i64 st0) := keepc hb' c5_o29_1
    clear c5_o29_1 ac5_o29_1
    have c6_o29_2 : w6.cell? ⟨w4.heap.size, 2, none⟩ = some (.slice (some ⟨g028, 0, none⟩) n0 n0) := keepc hb' c5_o29_2
    clear c5_o29_2 ac5_o29_2
    have c6_o31_0 : w6.cell? ⟨w5.heap.size, 0, none⟩ = some (.int .i64 st1) := keepc hb (by first | (simp; done) | (rw [World.cell?_alloc_past _ _ _ (by simp <;> omega)]; simp; done) | (rw [World.cell?_alloc_past _ _ _ (by simp <;> omega), World.cell?_alloc_past _ _ _ (by simp <;> omega)]; simp; done) | (rw [World.cell?_alloc_past _ _ _ (by simp <;> omega), World.cell?_alloc_past _ _ _ (by simp <;> omega), World.cell?_alloc_past _ _ _ (by simp <;> omega)]; simp; done) | (rw [World.cell?_alloc_at _ _ _ _ (by simp)]; simp; done) | (rw [World.cell?_alloc_past _ _ _ (by simp <;> omega), World.cell?_alloc_at _ _ _ _ (by simp)]; simp; done) | (rw [World.cell?_alloc_past _ _ _ (by simp <;> omega), World.cell?_alloc_past _ _ _ (by simp <;> omega), World.cell?_alloc_at _ _ _ _ (by simp)]; simp; done) | (rw [World.cell?_alloc_past _ _ _ (by simp <;> omega), World.cell?_alloc_past _ _ _ (by simp <;> omega), World.cell?_alloc_past _ _ _ (by simp <;> omega), World.cell?_alloc_at _ _ _ _ (by simp)]; simp; done))
    have hl_c6_o31_0 : w5.heap.size < w6.heap.size := World.block_lt_of_cell? w6 _ c6_o31_0
    have c6_o31_1 : w6.cell? ⟨w5.heap.size, 1, none⟩ = some (.int .i64 at1) := keepc hb (by first | (simp; done) | (rw [World.cell?_alloc_past _ _ _ (by simp <;> omega)]; simp; done) | (rw [World.cell?_alloc_past _ _ _ (by simp <;> omega), World.cell?_alloc_past _ _ _ (by simp <;> omega)]; simp; done) | (rw [World.cell?_alloc_past _ _ _ (by simp <;> omega), World.cell?_alloc_past _ _ _ (by simp <;> omega), World.cell?_alloc_past _ _ _ (by simp <;> omega)]; simp; done) | (rw [World.cell?_alloc_at _ _ _ _ (by simp)]; simp; done) | (rw [World.cell?_alloc_past _ _ _ (by simp <;> omega), World.cell?_alloc_at _ _ _ _ (by simp)]; simp; done) | (rw [World.cell?_alloc_past _ _ _ (by simp <;> omega), World.cell?_alloc_past _ _ _ (by simp <;> omega), World.cell?_alloc_at _ _ _ _ (by simp)]; simp; done) | (rw [World.cell?_alloc_past _ _ _ (by simp <;> omega), World.cell?_alloc_past _ _ _ (by simp <;> omega), World.cell?_alloc_past _ _ _ (by simp <;> omega), World.cell?_alloc_at _ _ _ _ (by simp)]; simp; done))
    have c6_o31_2 : w6.cell? ⟨w5.heap.size, 2, none⟩ = some (.slice (some ⟨g030, 0, none⟩) n1 n1) := keepc hb (by first | (simp; done) | (rw [World.cell?_alloc_past _ _ _ (by simp <;> omega)]; simp; done) | (rw [World.cell?_alloc_past _ _ _ (by simp <;> omega), World.cell?_alloc_past _ _ _ (by simp <;> omega)]; simp; done) | (rw [World.cell?_alloc_past _ _ _ (by simp <;> omega), World.cell?_alloc_past _ _ _ (by simp <;> omega), World.cell?_alloc_past _ _ _ (by simp <;> omega)]; simp; done) | (rw [World.cell?_alloc_at _ _ _ _ (by simp)]; simp; done) | (rw [World.cell?_alloc_past _ _ _ (by simp <;> omega), World.cell?_alloc_at _ _ _ _ (by simp)]; simp; done) | (rw [World.cell?_alloc_past _ _ _ (by simp <;> omega), World.cell?_alloc_past _ _ _ (by simp <;> omega), World.cell?_alloc_at _ _ _ _ (by simp)]; simp; done) | (rw [World.cell?_alloc_past _ _ _ (by simp <;> omega), World.cell?_alloc_past _ _ _ (by simp <;> omega), World.cell?_alloc_past _ _ _ (by simp <;> omega), World.cell?_alloc_at _ _ _ _ (by simp)]; simp; done))
    have ac6_a0_0 := fun o => keepa o c6_a0_0
    have ac6_a0_1 := fun o => keepa o c6_a0_1
    have ac6_a0_2 := fun o => keepa o c6_a0_2
    have ac6_a1_0 := fun o => keepa o c6_a1_0
    have ac6_a1_1 := fun o => keepa o c6_a1_1
    have ac6_a1_2 := fun o => keepa o c6_a1_2
    have ac6_o27_0 := fun o => keepa o c6_o27_0
    have ac6_o27_1 := fun o => keepa o c6_o27_1
    have ac6_o27_2 := fun o => keepa o c6_o27_2
    have ac6_o29_0 := fun o => keepa o c6_o29_0
    have ac6_o29_1 := fun o => keepa o c6_o29_1
    have ac6_o29_2 := fun o => keepa o c6_o29_2
    have ac6_o31_0 := fun o => keepa o c6_o31_0
    have ac6_o31_1 := fun o => keepa o c6_o31_1
    have ac6_o31_2 := fun o => keepa o c6_o31_2
    have rP0 := P0.out.below hb'; clear P0; have P0 := Lib.hid rP0; clear rP0
    have rP1 := P1.out.below hb'; clear P1; have P1 := Lib.hid rP1; clear rP1
    have rFo27 := Fo27.out.below hb'; clear Fo27; have Fo27 := Lib.hid rFo27; clear rFo27
    have rFo29 := Fo29.out.below hb'; clear Fo29; have Fo29 := Lib.hid rFo29; clear rFo29
    have rFo31 := Fo31.out.below hb'; clear Fo31; have Fo31 := Lib.hid rFo31; clear rFo31
    have rB := below_chain B.out (by omega) hb'; clear B; have B := Lib.hid rB; clear rB
    have Fo37 := Lib.hid q35; clear q35
    clear hb hb'
    go_wp2_with fail
    refine (eqPartial_t _ _ _ _ _ _ _ _ _ _ (by exact ((Fo37.out.rd).alloc _)) (by exact ((Fo27.out.rd).alloc _)) (by omega)).mono ?_
    rintro e w7 ⟨rfl, hb⟩
    have hb' : Below w6.heap.size w6 w7 := (by first | (with_reducible exact hb) | (with_reducible exact up1 hb) | (with_reducible exact up2 hb) | (with_reducible exact up3 hb) | (with_reducible exact up4 hb) | (with_reducible exact below_of_drew hb) | (with_reducible exact below_of_drew (up1 hb)))
    have z7 := hb'.size
    have c7_a0_0 : w7.cell? ⟨w.heap.size, 0, none⟩ = some (.int .i64 sy0) := keepc hb' c6_a0_0
    clear c6_a0_0 ac6_a0_0
    have c7_a0_1 : w7.cell? ⟨w.heap.size, 1, none⟩ = some (.int .i64 st0) := keepc hb' c6_a0_1
    clear c6_a0_1 ac6_a0_1
    have c7_a0_2 : w7.cell? ⟨w.heap.size, 2, none⟩ = some (.slice A0 n0 c0) := keepc hb' c6_a0_2
    clear c6_a0_2 ac6_a0_2
    have c7_a1_0 : w7.cell? ⟨(w.heap.size + 1), 0, none⟩ = some (.int .i64 st1) := keepc hb' c6_a1_0
    clear c6_a1_0 ac6_a1_0
    have c7_a1_1 : w7.cell? ⟨(w.heap.size + 1), 1, none⟩ = some (.int .i64 at1) := keepc hb' c6_a1_1
    clear c6_a1_1 ac6_a1_1
    have c7_a1_2 : w7.cell? ⟨(w.heap.size + 1), 2, none⟩ = some (.slice A1 n1 c1) := keepc hb' c6_a1_2
    clear c6_a1_2 ac6_a1_2
    have c7_o27_0 : w7.cell? ⟨g14, 0, none⟩ = some (.int .i64 (fwR sy0 st0 xs0 st1 at1 xs1 x2).1.1) := keepc hb' c6_o27_0
    clear c6_o27_0 ac6_o27_0
    have c7_o27_1 : w7.cell? ⟨g14, 1, none⟩ = some (.int .i64 (fwR sy0 st0 xs0 st1 at1 xs1 x2).1.2.1) := keepc hb' c6_o27_1
    clear c6_o27_1 ac6_o27_1
    have c7_o27_2 : w7.cell? ⟨g14, 2, none⟩ = some (.slice A11 n12 c13) := keepc hb' c6_o27_2
    clear c6_o27_2 ac6_o27_2
    have c7_o29_0 : w7.cell? ⟨w4.heap.size, 0, none⟩ = some (.int .i64 sy0) := keepc hb' c6_o29_0
    clear c6_o29_0 ac6_o29_0
    have c7_o29_1 : w7.cell? ⟨w4.heap.size, 1, none⟩ = some (.int .i64 st0) := keepc hb' c6_o29_1
    clear c6_o29_1 ac6_o29_1
    have c7_o29_2 : w7.cell? ⟨w4.heap.size, 2, none⟩ = some (.slice (some ⟨g028, 0, none⟩) n0 n0) := keepc hb' c6_o29_2
    clear c6_o29_2 ac6_o29_2
    have c7_o31_0 : w7.cell? ⟨w5.heap.size, 0, none⟩ = some (.int .i64 st1) := keepc hb' c6_o31_0
    clear c6_o31_0 ac6_o31_0
    have c7_o31_1 : w7.cell? ⟨w5.heap.size, 1, none⟩ = some (.int .i64 at1) := keepc hb' c6_o31_1
    clear c6_o31_1 ac6_o31_1
    have c7_o31_2 : w7.cell? ⟨w5.heap.size, 2, none⟩ = some (.slice (some ⟨g030, 0, none⟩) n1 n1) := keepc hb' c6_o31_2
    clear c6_o31_2 ac6_o31_2
    have c7_o37_0 : w7.cell? ⟨w6.heap.size, 0, none⟩ = some (.int .i64 (fwR sy0 st0 xs0 st1 at1 xs1 x2).1.1) := keepc hb (by first | (simp; done) | (rw [World.cell?_alloc_past _ _ _ (by simp <;> omega)]; simp; done) | (rw [World.cell?_alloc_past _ _ _ (by simp <;> omega), World.cell?_alloc_past _ _ _ (by simp <;> omega)]; simp; done) | (rw [World.cell?_alloc_past _ _ _ (by simp <;> omega), World.cell?_alloc_past _ _ _ (by simp <;> omega), World.cell?_alloc_past _ _ _ (by simp <;> omega)]; simp; done) | (rw [World.cell?_alloc_at _ _ _ _ (by simp)]; simp; done) | (rw [World.cell?_alloc_past _ _ _ (by simp <;> omega), World.cell?_alloc_at _ _ _ _ (by simp)]; simp; done) | (rw [World.cell?_alloc_past _ _ _ (by simp <;> omega), World.cell?_alloc_past _ _ _ (by simp <;> omega), World.cell?_alloc_at _ _ _ _ (by simp)]; simp; done) | (rw [World.cell?_alloc_past _ _ _ (by simp <;> omega), World.cell?_alloc_past _ _ _ (by simp <;> omega), World.cell?_alloc_past _ _ _ (by simp <;> omega), World.cell?_alloc_at _ _ _ _ (by simp)]; simp; done))
    have hl_c7_o37_0 : w6.heap.size < w7.heap.size := World.block_lt_of_cell? w7 _ c7_o37_0
    have c7_o37_1 : w7.cell? ⟨w6.heap.size, 1, none⟩ = some (.int .i64 (fwR sy0 st0 xs0 st1 at1 xs1 x2).1.2.1) := keepc hb (by first | (simp; done) | (rw [World.cell?_alloc_past _ _ _ (by simp <;> omega)]; simp; done) | (rw [World.cell?_alloc_past _ _ _ (by simp <;> omega), World.cell?_alloc_past _ _ _ (by simp <;> omega)]; simp; done) | (rw [World.cell?_alloc_past _ _ _ (by simp <;> omega), World.cell?_alloc_past _ _ _ (by simp <;> omega), World.cell?_alloc_past _ _ _ (by simp <;> omega)]; simp; done) | (rw [World.cell?_alloc_at _ _ _ _ (by simp)]; simp; done) | (rw [World.cell?_alloc_past _ _ _ (by simp <;> omega), World.cell?_alloc_at _ _ _ _ (by simp)]; simp; done) | (rw [World.cell?_alloc_past _ _ _ (by simp <;> omega), World.cell?_alloc_past _ _ _ (by simp <;> omega), World.cell?_alloc_at _ _ _ _ (by simp)]; simp; done) | (rw [World.cell?_alloc_past _ _ _ (by simp <;> omega), World.cell?_alloc_past _ _ _ (by simp <;> omega), World.cell?_alloc_past _ _ _ (by simp <;> omega), World.cell?_alloc_at _ _ _ _ (by simp)]; simp; done))
    have c7_o37_2 : w7.cell? ⟨w6.heap.size, 2, none⟩ = some (.slice A32 n33 c34) := keepc hb (by first | (simp; done) | (rw [World.cell?_alloc_past _ _ _ (by simp <;> omega)]; simp; done) | (rw [World.cell?_alloc_past _ _ _ (by simp <;> omega), World.cell?_alloc_past _ _ _ (by simp <;> omega)]; simp; done) | (rw [World.cell?_alloc_past _ _ _ (by simp <;> omega), World.cell?_alloc_past _ _ _ (by simp <;> omega), World.cell?_alloc_past _ _ _ (by simp <;> omega)]; simp; done) | (rw [World.cell?_alloc_at _ _ _ _ (by simp)]; simp; done) | (rw [World.cell?_alloc_past _ _ _ (by simp <;> omega), World.cell?_alloc_at _ _ _ _ (by simp)]; simp; done) | (rw [World.cell?_alloc_past _ _ _ (by simp <;> omega), World.cell?_alloc_past _ _ _ (by simp <;> omega), World.cell?_alloc_at _ _ _ _ (by simp)]; simp; done) | (rw [World.cell?_alloc_past _ _ _ (by simp <;> omega), World.cell?_alloc_past _ _ _ (by simp <;> omega), World.cell?_alloc_past _ _ _ (by simp <;> omega), World.cell?_alloc_at _ _ _ _ (by simp)]; simp; done))
    have ac7_a0_0 := fun o => keepa o c7_a0_0
    have ac7_a0_1 := fun o => keepa o c7_a0_1
    have ac7_a0_2 := fun o => keepa o c7_a0_2
    have ac7_a1_0 := fun o => keepa o c7_a1_0
    have ac7_a1_1 := fun o => keepa o c7_a1_1
    have ac7_a1_2 := fun o => keepa o c7_a1_2
    have ac7_o27_0 := fun o => keepa o c7_o27_0
    have ac7_o27_1 := fun o => keepa o c7_o27_1
    have ac7_o27_2 := fun o => keepa o c7_o27_2
    have ac7_o29_0 := fun o => keepa o c7_o29_0
    have ac7_o29_1 := fun o => keepa o c7_o29_1
    have ac7_o29_2 := fun o => keepa o c7_o29_2
    have ac7_o31_0 := fun o => keepa o c7_o31_0
    have ac7_o31_1 := fun o => keepa o c7_o31_1
    have ac7_o31_2 := fun o => keepa o c7_o31_2
    have ac7_o37_0 := fun o => keepa o c7_o37_0
    have ac7_o37_1 := fun o => keepa o c7_o37_1
    have ac7_o37_2 := fun o => keepa o c7_o37_2
    have rP0 := P0.out.below hb'; clear P0; have P0 := Lib.hid rP0; clear rP0
    have rP1 := P1.out.below hb'; clear P1; have P1 := Lib.hid rP1; clear rP1
    have rFo27 := Fo27.out.below hb'; clear Fo27; have Fo27 := Lib.hid rFo27; clear rFo27
    have rFo29 := Fo29.out.below hb'; clear Fo29; have Fo29 := Lib.hid rFo29; clear rFo29
    have rFo31 := Fo31.out.below hb'; clear Fo31; have Fo31 := Lib.hid rFo31; clear rFo31
    have rFo37 := Fo37.out.below hb'; clear Fo37; have Fo37 := Lib.hid rFo37; clear rFo37
    have rB := below_chain B.out (by omega) hb'; clear B; have B := Lib.hid rB; clear rB
    clear hb hb'
    go_wp2_with fail
    have fx_c7_a0_0 := Ext.cell c7_a0_0
    have fx_c7_a0_1 := Ext.cell c7_a0_1
    have fx_c7_a0_2 := Ext.cell c7_a0_2
    have fx_c7_a1_0 := Ext.cell c7_a1_0
    have fx_c7_a1_1 := Ext.cell c7_a1_1
    have fx_c7_a1_2 := Ext.cell c7_a1_2
    have fx_c7_o27_0 := Ext.cell c7_o27_0
    have fx_c7_o27_1 := Ext.cell c7_o27_1
    have fx_c7_o27_2 := Ext.cell c7_o27_2
    have fx_c7_o29_0 := Ext.cell c7_o29_0
    have fx_c7_o29_1 := Ext.cell c7_o29_1
    have fx_c7_o29_2 := Ext.cell c7_o29_2
    have fx_c7_o31_0 := Ext.cell c7_o31_0
    have fx_c7_o31_1 := Ext.cell c7_o31_1
    have fx_c7_o31_2 := Ext.cell c7_o31_2
    have fx_c7_o37_0 := Ext.cell c7_o37_0
    have fx_c7_o37_1 := Ext.cell c7_o37_1
    have fx_c7_o37_2 := Ext.cell c7_o37_2
    refine Mix.wp_region_mix [3, 3, 1, 1, 0] (fun w' => ∃ x : Ext w7, w' = x.w) (by kernel_rfl) (by kernel_rfl) (InExt.drew _) ?_
    repeat (first | (refine Mix.wpMix_read (by rfl) ?_; go_big_quiet_step (fail); refine wpQuiet_nil ?_) | (refine Mix.wpMix_pure (by rfl) ?_; go_big_quiet_step (fail); refine wpQuiet_nil ?_))
    refine Mix.wpMix_chg (by rfl) (fun K hK => ?_)
    go_wp2_with fail
    refine (toMachine_c _ _ _ _ _ _ _ (by exact (P0.out.rd)) (by omega)).mono ?_
    rintro e w8 ⟨g038, rfl, q8, hb⟩
    have hb' : Below w7.heap.size w7 w8 := (by first | (with_reducible exact hb) | (with_reducible exact up1 hb) | (with_reducible exact up2 hb) | (with_reducible exact up3 hb) | (with_reducible exact up4 hb) | (with_reducible exact below_of_drew hb) | (with_reducible exact below_of_drew (up1 hb)))
    have z8 := hb'.size
    have c8_a0_0 : w8.cell? ⟨w.heap.size, 0, none⟩ = some (.int .i64 sy0) := keepc hb' c7_a0_0
    clear c7_a0_0 ac7_a0_0
    have c8_a0_1 : w8.cell? ⟨w.heap.size, 1, none⟩ = some (.int .i64 st0) := keepc hb' c7_a0_1
    clear c7_a0_1 ac7_a0_1
    have c8_a0_2 : w8.cell? ⟨w.heap.size, 2, none⟩ = some (.slice A0 n0 c0) := keepc hb' c7_a0_2
    clear c7_a0_2 ac7_a0_2
    have c8_a1_0 : w8.cell? ⟨(w.heap.size + 1), 0, none⟩ = some (.int .i64 st1) := keepc hb' c7_a1_0
    clear c7_a1_0 ac7_a1_0
    have c8_a1_1 : w8.cell? ⟨(w.heap.size + 1), 1, none⟩ = some (.int .i64 at1) := keepc hb' c7_a1_1
    clear c7_a1_1 ac7_a1_1
    have c8_a1_2 : w8.cell? ⟨(w.heap.size + 1), 2, none⟩ = some (.slice A1 n1 c1) := keepc hb' c7_a1_2
    clear c7_a1_2 ac7_a1_2
    have c8_o27_0 : w8.cell? ⟨g14, 0, none⟩ = some (.int .i64 (fwR sy0 st0 xs0 st1 at1 xs1 x2).1.1) := keepc hb' c7_o27_0
    clear c7_o27_0 ac7_o27_0
    have c8_o27_1 : w8.cell? ⟨g14, 1, none⟩ = some (.int .i64 (fwR sy0 st0 xs0 st1 at1 xs1 x2).1.2.1) := keepc hb' c7_o27_1
    clear c7_o27_1 ac7_o27_1
    have c8_o27_2 : w8.cell? ⟨g14, 2, none⟩ = some (.slice A11 n12 c13) := keepc hb' c7_o27_2
    clear c7_o27_2 ac7_o27_2
    have c8_o29_0 : w8.cell? ⟨w4.heap.size, 0, none⟩ = some (.int .i64 sy0) := keepc hb' c7_o29_0
    clear c7_o29_0 ac7_o29_0
    have c8_o29_1 : w8.cell? ⟨w4.heap.size, 1, none⟩ = some (.int .i64 st0) := keepc hb' c7_o29_1
    clear c7_o29_1 ac7_o29_1
    have c8_o29_2 : w8.cell? ⟨w4.heap.size, 2, none⟩ = some (.slice (some ⟨g028, 0, none⟩) n0 n0) := keepc hb' c7_o29_2
    clear c7_o29_2 ac7_o29_2
    have c8_o31_0 : w8.cell? ⟨w5.heap.size, 0, none⟩ = some (.int .i64 st1) := keepc hb' c7_o31_0
    clear c7_o31_0 ac7_o31_0
    have c8_o31_1 : w8.cell? ⟨w5.heap.size, 1, none⟩ = some (.int .i64 at1) := keepc hb' c7_o31_1
    clear c7_o31_1 ac7_o31_1
    have c8_o31_2 : w8.cell? ⟨w5.heap.size, 2, none⟩ = some (.slice (some ⟨g030, 0, none⟩) n1 n1) := keepc hb' c7_o31_2
    clear c7_o31_2 ac7_o31_2
    have c8_o37_0 : w8.cell? ⟨w6.heap.size, 0, none⟩ = some (.int .i64 (fwR sy0 st0 xs0 st1 at1 xs1 x2).1.1) := keepc hb' c7_o37_0
    clear c7_o37_0 ac7_o37_0
    have c8_o37_1 : w8.cell? ⟨w6.heap.size, 1, none⟩ = some (.int .i64 (fwR sy0 st0 xs0 st1 at1 xs1 x2).1.2.1) := keepc hb' c7_o37_1
    clear c7_o37_1 ac7_o37_1
    have c8_o37_2 : w8.cell? ⟨w6.heap.size, 2, none⟩ = some (.slice A32 n33 c34) := keepc hb' c7_o37_2
    clear c7_o37_2 ac7_o37_2
    have ac8_a0_0 := fun o => keepa o c8_a0_0
    have ac8_a0_1 := fun o => keepa o c8_a0_1
    have ac8_a0_2 := fun o => keepa o c8_a0_2
    have ac8_a1_0 := fun o => keepa o c8_a1_0
    have ac8_a1_1 := fun o => keepa o c8_a1_1
    have ac8_a1_2 := fun o => keepa o c8_a1_2
    have ac8_o27_0 := fun o => keepa o c8_o27_0
    have ac8_o27_1 := fun o => keepa o c8_o27_1
    have ac8_o27_2 := fun o => keepa o c8_o27_2
    have ac8_o29_0 := fun o => keepa o c8_o29_0
    have ac8_o29_1 := fun o => keepa o c8_o29_1
    have ac8_o29_2 := fun o => keepa o c8_o29_2
    have ac8_o31_0 := fun o => keepa o c8_o31_0
    have ac8_o31_1 := fun o => keepa o c8_o31_1
    have ac8_o31_2 := fun o => keepa o c8_o31_2
    have ac8_o37_0 := fun o => keepa o c8_o37_0
    have ac8_o37_1 := fun o => keepa o c8_o37_1
    have ac8_o37_2 := fun o => keepa o c8_o37_2
    have rP0 := P0.out.below hb'; clear P0; have P0 := Lib.hid rP0; clear rP0
    have rP1 := P1.out.below hb'; clear P1; have P1 := Lib.hid rP1; clear rP1
    have rFo27 := Fo27.out.below hb'; clear Fo27; have Fo27 := Lib.hid rFo27; clear rFo27
    have rFo29 := Fo29.out.below hb'; clear Fo29; have Fo29 := Lib.hid rFo29; clear rFo29
    have rFo31 := Fo31.out.below hb'; clear Fo31; have Fo31 := Lib.hid rFo31; clear rFo31
    have rFo37 := Fo37.out.below hb'; clear Fo37; have Fo37 := Lib.hid rFo37; clear rFo37
    have rB := below_chain B.out (by omega) hb'; clear B; have B := Lib.hid rB; clear rB
    have Fo39 := Lib.hid q8; clear q8
    have em8 : Below w7.heap.size w7 w8 := hb'
    clear hb hb'
    go_wp2_with fail
    refine hK _ _ ⟨⟨_, em8⟩, rfl⟩ ?_
    clear hK K
    refine Mix.wpMix_chg (by rfl) (fun K hK => ?_)
    go_wp2_with fail
    refine (eqMachine_t _ _ _ _ _ _ _ _ _ _ (by exact (Fo29.out.rd)) (by exact (Fo39.out.rd)) (by omega)).mono ?_
    rintro e w9 ⟨rfl, hb⟩
    have hb' : Below w8.heap.size w8 w9 := (by first | (with_reducible exact hb) | (with_reducible exact up1 hb) | (with_reducible exact up2 hb) | (with_reducible exact up3 hb) | (with_reducible exact up4 hb) | (with_reducible exact below_of_drew hb) | (with_reducible exact below_of_drew (up1 hb)))
    have z9 := hb'.size
    have c9_a0_0 : w9.cell? ⟨w.heap.size, 0, none⟩ = some (.int .i64 sy0) := keepc hb' c8_a0_0
    clear c8_a0_0 ac8_a0_0
    have c9_a0_1 : w9.cell? ⟨w.heap.size, 1, none⟩ = some (.int .i64 st0) := keepc hb' c8_a0_1
    clear c8_a0_1 ac8_a0_1
    have c9_a0_2 : w9.cell? ⟨w.heap.size, 2, none⟩ = some (.slice A0 n0 c0) := keepc hb' c8_a0_2
    clear c8_a0_2 ac8_a0_2
    have c9_a1_0 : w9.cell? ⟨(w.heap.size + 1), 0, none⟩ = some (.int .i64 st1) := keepc hb' c8_a1_0
    clear c8_a1_0 ac8_a1_0
    have c9_a1_1 : w9.cell? ⟨(w.heap.size + 1), 1, none⟩ = some (.int .i64 at1) := keepc hb' c8_a1_1
    clear c8_a1_1 ac8_a1_1
    have c9_a1_2 : w9.cell? ⟨(w.heap.size + 1), 2, none⟩ = some (.slice A1 n1 c1) := keepc hb' c8_a1_2
    clear c8_a1_2 ac8_a1_2
    have c9_o27_0 : w9.cell? ⟨g14, 0, none⟩ = some (.int .i64 (fwR sy0 st0 xs0 st1 at1 xs1 x2).1.1) := keepc hb' c8_o27_0
    clear c8_o27_0 ac8_o27_0
    have c9_o27_1 : w9.cell? ⟨g14, 1, none⟩ = some (.int .i64 (fwR sy0 st0 xs0 st1 at1 xs1 x2).1.2.1) := keepc hb' c8_o27_1
    clear c8_o27_1 ac8_o27_1
    have c9_o27_2 : w9.cell? ⟨g14, 2, none⟩ = some (.slice A11 n12 c13) := keepc hb' c8_o27_2
    clear c8_o27_2 ac8_o27_2
    have c9_o29_0 : w9.cell? ⟨w4.heap.size, 0, none⟩ = some (.int .i64 sy0) := keepc hb' c8_o29_0
    clear c8_o29_0 ac8_o29_0
    have c9_o29_1 : w9.cell? ⟨w4.heap.size, 1, none⟩ = some (.int .i64 st0) := keepc hb' c8_o29_1
    clear c8_o29_1 ac8_o29_1
    have c9_o29_2 : w9.cell? ⟨w4.heap.size, 2, none⟩ = some (.slice (some ⟨g028, 0, none⟩) n0 n0) := keepc hb' c8_o29_2
    clear c8_o29_2 ac8_o29_2
    have c9_o31_0 : w9.cell? ⟨w5.heap.size, 0, none⟩ = some (.int .i64 st1) := keepc hb' c8_o31_0
    clear c8_o31_0 ac8_o31_0
    have c9_o31_1 : w9.cell? ⟨w5.heap.size, 1, none⟩ = some (.int .i64 at1) := keepc hb' c8_o31_1
    clear c8_o31_1 ac8_o31_1
    have c9_o31_2 : w9.cell? ⟨w5.heap.size, 2, none⟩ = some (.slice (some ⟨g030, 0, none⟩) n1 n1) := keepc hb' c8_o31_2
    clear c8_o31_2 ac8_o31_2
    have c9_o37_0 : w9.cell? ⟨w6.heap.size, 0, none⟩ = some (.int .i64 (fwR sy0 st0 xs0 st1 at1 xs1 x2).1.1) := keepc hb' c8_o37_0
    clear c8_o37_0 ac8_o37_0
    have c9_o37_1 : w9.cell? ⟨w6.heap.size, 1, none⟩ = some (.int .i64 (fwR sy0 st0 xs0 st1 at1 xs1 x2).1.2.1) := keepc hb' c8_o37_1
    clear c8_o37_1 ac8_o37_1
    have c9_o37_2 : w9.cell? ⟨w6.heap.size, 2, none⟩ = some (.slice A32 n33 c34) := keepc hb' c8_o37_2
    clear c8_o37_2 ac8_o37_2
    have ac9_a0_0 := fun o => keepa o c9_a0_0
    have ac9_a0_1 := fun o => keepa o c9_a0_1
    have ac9_a0_2 := fun o => keepa o c9_a0_2
    have ac9_a1_0 := fun o => keepa o c9_a1_0
    have ac9_a1_1 := fun o => keepa o c9_a1_1
    have ac9_a1_2 := fun o => keepa o c9_a1_2
    have ac9_o27_0 := fun o => keepa o c9_o27_0
    have ac9_o27_1 := fun o => keepa o c9_o27_1
    have ac9_o27_2 := fun o => keepa o c9_o27_2
    have ac9_o29_0 := fun o => keepa o c9_o29_0
    have ac9_o29_1 := fun o => keepa o c9_o29_1
    have ac9_o29_2 := fun o => keepa o c9_o29_2
    have ac9_o31_0 := fun o => keepa o c9_o31_0
    have ac9_o31_1 := fun o => keepa o c9_o31_1
    have ac9_o31_2 := fun o => keepa o c9_o31_2
    have ac9_o37_0 := fun o => keepa o c9_o37_0
    have ac9_o37_1 := fun o => keepa o c9_o37_1
    have ac9_o37_2 := fun o => keepa o c9_o37_2
    have rP0 := P0.out.below hb'; clear P0; have P0 := Lib.hid rP0; clear rP0
    have rP1 := P1.out.below hb'; clear P1; have P1 := Lib.hid rP1; clear rP1
    have rFo27 := Fo27.out.below hb'; clear Fo27; have Fo27 := Lib.hid rFo27; clear rFo27
    have rFo29 := Fo29.out.below hb'; clear Fo29; have Fo29 := Lib.hid rFo29; clear rFo29
    have rFo31 := Fo31.out.below hb'; clear Fo31; have Fo31 := Lib.hid rFo31; clear rFo31
    have rFo37 := Fo37.out.below hb'; clear Fo37; have Fo37 := Lib.hid rFo37; clear rFo37
    have rFo39 := Fo39.out.below hb'; clear Fo39; have Fo39 := Lib.hid rFo39; clear rFo39
    have rB := below_chain B.out (by omega) hb'; clear B; have B := Lib.hid rB; clear rB
    have em9 : Below w7.heap.size w7 w9 := below_chain em8 (by omega) hb'
    clear hb hb'
    go_wp2_with fail
    refine hK _ _ ⟨⟨_, em9⟩, rfl⟩ ?_
    clear hK K
    repeat (first | (refine Mix.wpMix_read (by rfl) ?_; go_big_quiet_step (fail); refine wpQuiet_nil ?_) | (refine Mix.wpMix_pure (by rfl) ?_; go_big_quiet_step (fail); refine wpQuiet_nil ?_))
    (refine Mix.wpMix_nil ?_; try simp only [Exit.then])
    clear fx_c7_a0_0
    clear fx_c7_a0_1
    clear fx_c7_a0_2
    clear fx_c7_a1_0
    clear fx_c7_a1_1
    clear fx_c7_a1_2
    clear fx_c7_o27_0
    clear fx_c7_o27_1
    clear fx_c7_o27_2
    clear fx_c7_o29_0
    clear fx_c7_o29_1
    clear fx_c7_o29_2
    clear fx_c7_o31_0
    clear fx_c7_o31_1
    clear fx_c7_o31_2
    clear fx_c7_o37_0
    clear fx_c7_o37_1
    clear fx_c7_o37_2
    clear Fo39
    go_wp2_with fail
    have fx_c9_a0_0 := Ext.cell c9_a0_0
    have fx_c9_a0_1 := Ext.cell c9_a0_1
    have fx_c9_a0_2 := Ext.cell c9_a0_2
    have fx_c9_a1_0 := Ext.cell c9_a1_0
    have fx_c9_a1_1 := Ext.cell c9_a1_1
    have fx_c9_a1_2 := Ext.cell c9_a1_2
    have fx_c9_o27_0 := Ext.cell c9_o27_0
    have fx_c9_o27_1 := Ext.cell c9_o27_1
    have fx_c9_o27_2 := Ext.cell c9_o27_2
    have fx_c9_o29_0 := Ext.cell c9_o29_0
    have fx_c9_o29_1 := Ext.cell c9_o29_1
    have fx_c9_o29_2 := Ext.cell c9_o29_2
    have fx_c9_o31_0 := Ext.cell c9_o31_0
    have fx_c9_o31_1 := Ext.cell c9_o31_1
    have fx_c9_o31_2 := Ext.cell c9_o31_2
    have fx_c9_o37_0 := Ext.cell c9_o37_0
    have fx_c9_o37_1 := Ext.cell c9_o37_1
    have fx_c9_o37_2 := Ext.cell c9_o37_2
    refine Mix.wp_region_mix [3, 3, 1, 1, 0] (fun w' => ∃ x : Ext w9, w' = x.w) (by kernel_rfl) (by kernel_rfl) (InExt.drew _) ?_
    repeat (first | (refine Mix.wpMix_read (by rfl) ?_; go_big_quiet_step (fail); refine wpQuiet_nil ?_) | (refine Mix.wpMix_pure (by rfl) ?_; go_big_quiet_step (fail); refine wpQuiet_nil ?_))
    refine Mix.wpMix_chg (by rfl) (fun K hK => ?_)
    go_wp2_with fail
    refine (toPartial_c _ _ _ _ _ _ _ (by exact (P1.out.rd)) (by omega)).mono ?_
    rintro e w10 ⟨g040, rfl, q10, hb⟩
    have hb' : Below w9.heap.size w9 w10 := (by first | (with_reducible exact hb) | (with_reducible exact up1 hb) | (with_reducible exact up2 hb) | (with_reducible exact up3 hb) | (with_reducible exact up4 hb) | (with_reducible exact below_of_drew hb) | (with_reducible exact below_of_drew (up1 hb)))
    have z10 := hb'.size
    have c10_a0_0 : w10.cell? ⟨w.heap.size, 0, none⟩ = some (.int .i64 sy0) := keepc hb' c9_a0_0
    clear c9_a0_0 ac9_a0_0
    have c10_a0_1 : w10.cell? ⟨w.heap.size, 1, none⟩ = some (.int .i64 st0) := keepc hb' c9_a0_1
    clear c9_a0_1 ac9_a0_1
    have c10_a0_2 : w10.cell? ⟨w.heap.size, 2, none⟩ = some (.slice A0 n0 c0) := keepc hb' c9_a0_2
    clear c9_a0_2 ac9_a0_2
    have c10_a1_0 : w10.cell? ⟨(w.heap.size + 1), 0, none⟩ = some (.int .i64 st1) := keepc hb' c9_a1_0
    clear c9_a1_0 ac9_a1_0
    have c10_a1_1 : w10.cell? ⟨(w.heap.size + 1), 1, none⟩ = some (.int .i64 at1) := keepc hb' c9_a1_1
    clear c9_a1_1 ac9_a1_1
    have c10_a1_2 : w10.cell? ⟨(w.heap.size + 1), 2, none⟩ = some (.slice A1 n1 c1) := keepc hb' c9_a1_2
    clear c9_a1_2 ac9_a1_2
    have c10_o27_0 : w10.cell? ⟨g14, 0, none⟩ = some (.int .i64 (fwR sy0 st0 xs0 st1 at1 xs1 x2).1.1) := keepc hb' c9_o27_0
    clear c9_o27_0 ac9_o27_0
    have c10_o27_1 : w10.cell? ⟨g14, 1, none⟩ = some (.int .i64 (fwR sy0 st0 xs0 st1 at1 xs1 x2).1.2.1) := keepc hb' c9_o27_1
    clear c9_o27_1 ac9_o27_1
    have c10_o27_2 : w10.cell? ⟨g14, 2, none⟩ = some (.slice A11 n12 c13) := keepc hb' c9_o27_2
    clear c9_o27_2 ac9_o27_2
    have c10_o29_0 : w10.cell? ⟨w4.heap.size, 0, none⟩ = some (.int .i64 sy0) := keepc hb' c9_o29_0
    clear c9_o29_0 ac9_o29_0
    have c10_o29_1 : w10.cell? ⟨w4.heap.size, 1, none⟩ = some (.int .i64 st0) := keepc hb' c9_o29_1
    clear c9_o29_1 ac9_o29_1
    have c10_o29_2 : w10.cell? ⟨w4.heap.size, 2, none⟩ = some (.slice (some ⟨g028, 0, none⟩) n0 n0) := keepc hb' c9_o29_2
    clear c9_o29_2 ac9_o29_2
    have c10_o31_0 : w10.cell? ⟨w5.heap.size, 0, none⟩ = some (.int .i64 st1) := keepc hb' c9_o31_0
    clear c9_o31_0 ac9_o31_0
    have c10_o31_1 : w10.cell? ⟨w5.heap.size, 1, none⟩ = some (.int .i64 at1) := keepc hb' c9_o31_1
    clear c9_o31_1 ac9_o31_1
    have c10_o31_2 : w10.cell? ⟨w5.heap.size, 2, none⟩ = some (.slice (some ⟨g030, 0, none⟩) n1 n1) := keepc hb' c9_o31_2
    clear c9_o31_2 ac9_o31_2
    have c10_o37_0 : w10.cell? ⟨w6.heap.size, 0, none⟩ = some (.int .i64 (fwR sy0 st0 xs0 st1 at1 xs1 x2).1.1) := keepc hb' c9_o37_0
    clear c9_o37_0 ac9_o37_0
    have c10_o37_1 : w10.cell? ⟨w6.heap.size, 1, none⟩ = some (.int .i64 (fwR sy0 st0 xs0 st1 at1 xs1 x2).1.2.1) := keepc hb' c9_o37_1
    clear c9_o37_1 ac9_o37_1
    have c10_o37_2 : w10.cell? ⟨w6.heap.size, 2, none⟩ = some (.slice A32 n33 c34) := keepc hb' c9_o37_2
    clear c9_o37_2 ac9_o37_2
    have ac10_a0_0 := fun o => keepa o c10_a0_0
    have ac10_a0_1 := fun o => keepa o c10_a0_1
    have ac10_a0_2 := fun o => keepa o c10_a0_2
    have ac10_a1_0 := fun o => keepa o c10_a1_0
    have ac10_a1_1 := fun o => keepa o c10_a1_1
    have ac10_a1_2 := fun o => keepa o c10_a1_2
    have ac10_o27_0 := fun o => keepa o c10_o27_0
    have ac10_o27_1 := fun o => keepa o c10_o27_1
    have ac10_o27_2 := fun o => keepa o c10_o27_2
    have ac10_o29_0 := fun o => keepa o c10_o29_0
    have ac10_o29_1 := fun o => keepa o c10_o29_1
    have ac10_o29_2 := fun o => keepa o c10_o29_2
    have ac10_o31_0 := fun o => keepa o c10_o31_0
    have ac10_o31_1 := fun o => keepa o c10_o31_1
    have ac10_o31_2 := fun o => keepa o c10_o31_2
    have ac10_o37_0 := fun o => keepa o c10_o37_0
    have ac10_o37_1 := fun o => keepa o c10_o37_1
    have ac10_o37_2 := fun o => keepa o c10_o37_2
    have rP0 := P0.out.below hb'; clear P0; have P0 := Lib.hid rP0; clear rP0
    have rP1 := P1.out.below hb'; clear P1; have P1 := Lib.hid rP1; clear rP1
    have rFo27 := Fo27.out.below hb'; clear Fo27; have Fo27 := Lib.hid rFo27; clear rFo27
    have rFo29 := Fo29.out.below hb'; clear Fo29; have Fo29 := Lib.hid rFo29; clear rFo29
    have rFo31 := Fo31.out.below hb'; clear Fo31; have Fo31 := Lib.hid rFo31; clear rFo31
    have rFo37 := Fo37.out.below hb'; clear Fo37; have Fo37 := Lib.hid rFo37; clear rFo37
    have rB := below_chain B.out (by omega) hb'; clear B; have B := Lib.hid rB; clear rB
    have Fo41 := Lib.hid q10; clear q10
    have em10 : Below w9.heap.size w9 w10 := hb'
    clear hb hb'
    go_wp2_with fail
    refine hK _ _ ⟨⟨_, em10⟩, rfl⟩ ?_
    clear hK K
    refine Mix.wpMix_chg (by rfl) (fun K hK => ?_)
    go_wp2_with fail
    refine (eqPartial_t _ _ _ _ _ _ _ _ _ _ (by exact (Fo31.out.rd)) (by exact (Fo41.out.rd)) (by omega)).mono ?_
    rintro e w11 ⟨rfl, hb⟩
    have hb' : Below w10.heap.size w10 w11 := (by first | (with_reducible exact hb) | (with_reducible exact up1 hb) | (with_reducible exact up2 hb) | (with_reducible exact up3 hb) | (with_reducible exact up4 hb) | (with_reducible exact below_of_drew hb) | (with_reducible exact below_of_drew (up1 hb)))
    have z11 := hb'.size
    have c11_a0_0 : w11.cell? ⟨w.heap.size, 0, none⟩ = some (.int .i64 sy0) := keepc hb' c10_a0_0
    clear c10_a0_0 ac10_a0_0
    have c11_a0_1 : w11.cell? ⟨w.heap.size, 1, none⟩ = some (.int .i64 st0) := keepc hb' c10_a0_1
    clear c10_a0_1 ac10_a0_1
    have c11_a0_2 : w11.cell? ⟨w.heap.size, 2, none⟩ = some (.slice A0 n0 c0) := keepc hb' c10_a0_2
    clear c10_a0_2 ac10_a0_2
    have c11_a1_0 : w11.cell? ⟨(w.heap.size + 1), 0, none⟩ = some (.int .i64 st1) := keepc hb' c10_a1_0
    clear c10_a1_0 ac10_a1_0
    have c11_a1_1 : w11.cell? ⟨(w.heap.size + 1), 1, none⟩ = some (.int .i64 at1) := keepc hb' c10_a1_1
    clear c10_a1_1 ac10_a1_1
    have c11_a1_2 : w11.cell? ⟨(w.heap.size + 1), 2, none⟩ = some (.slice A1 n1 c1) := keepc hb' c10_a1_2
    clear c10_a1_2 ac10_a1_2
    have c11_o27_0 : w11.cell? ⟨g14, 0, none⟩ = some (.int .i64 (fwR sy0 st0 xs0 st1 at1 xs1 x2).1.1) := keepc hb' c10_o27_0
    clear c10_o27_0 ac10_o27_0
    have c11_o27_1 : w11.cell? ⟨g14, 1, none⟩ = some (.int .i64 (fwR sy0 st0 xs0 st1 at1 xs1 x2).1.2.1) := keepc hb' c10_o27_1
    clear c10_o27_1 ac10_o27_1
    have c11_o27_2 : w11.cell? ⟨g14, 2, none⟩ = some (.slice A11 n12 c13) := keepc hb' c10_o27_2
    clear c10_o27_2 ac10_o27_2
    have c11_o29_0 : w11.cell? ⟨w4.heap.size, 0, none⟩ = some (.int .i64 sy0) := keepc hb' c10_o29_0
    clear c10_o29_0 ac10_o29_0
    have c11_o29_1 : w11.cell? ⟨w4.heap.size, 1, none⟩ = some (.int .i64 st0) := keepc hb' c10_o29_1
    clear c10_o29_1 ac10_o29_1
    have c11_o29_2 : w11.cell? ⟨w4.heap.size, 2, none⟩ = some (.slice (some ⟨g028, 0, none⟩) n0 n0) := keepc hb' c10_o29_2
    clear c10_o29_2 ac10_o29_2
    have c11_o31_0 : w11.cell? ⟨w5.heap.size, 0, none⟩ = some (.int .i64 st1) := keepc hb' c10_o31_0
    clear c10_o31_0 ac10_o31_0
    have c11_o31_1 : w11.cell? ⟨w5.heap.size, 1, none⟩ = some (.int .i64 at1) := keepc hb' c10_o31_1
    clear c10_o31_1 ac10_o31_1
    have c11_o31_2 : w11.cell? ⟨w5.heap.size, 2, none⟩ = some (.slice (some ⟨g030, 0, none⟩) n1 n1) := keepc hb' c10_o31_2
    clear c10_o31_2 ac10_o31_2
    have c11_o37_0 : w11.cell? ⟨w6.heap.size, 0, none⟩ = some (.int .i64 (fwR sy0 st0 xs0 st1 at1 xs1 x2).1.1) := keepc hb' c10_o37_0
    clear c10_o37_0 ac10_o37_0
    have c11_o37_1 : w11.cell? ⟨w6.heap.size, 1, none⟩ = some (.int .i64 (fwR sy0 st0 xs0 st1 at1 xs1 x2).1.2.1) := keepc hb' c10_o37_1
    clear c10_o37_1 ac10_o37_1
    have c11_o37_2 : w11.cell? ⟨w6.heap.size, 2, none⟩ = some (.slice A32 n33 c34) := keepc hb' c10_o37_2
    clear c10_o37_2 ac10_o37_2
    have ac11_a0_0 := fun o => keepa o c11_a0_0
    have ac11_a0_1 := fun o => keepa o c11_a0_1
    have ac11_a0_2 := fun o => keepa o c11_a0_2
    have ac11_a1_0 := fun o => keepa o c11_a1_0
    have ac11_a1_1 := fun o => keepa o c11_a1_1
    have ac11_a1_2 := fun o => keepa o c11_a1_2
    have ac11_o27_0 := fun o => keepa o c11_o27_0
    have ac11_o27_1 := fun o => keepa o c11_o27_1
    have ac11_o27_2 := fun o => keepa o c11_o27_2
    have ac11_o29_0 := fun o => keepa o c11_o29_0
    have ac11_o29_1 := fun o => keepa o c11_o29_1
    have ac11_o29_2 := fun o => keepa o c11_o29_2
    have ac11_o31_0 := fun o => keepa o c11_o31_0
    have ac11_o31_1 := fun o => keepa o c11_o31_1
    have ac11_o31_2 := fun o => keepa o c11_o31_2
    have ac11_o37_0 := fun o => keepa o c11_o37_0
    have ac11_o37_1 := fun o => keepa o c11_o37_1
    have ac11_o37_2 := fun o => keepa o c11_o37_2
    have rP0 := P0.out.below hb'; clear P0; have P0 := Lib.hid rP0; clear rP0
    have rP1 := P1.out.below hb'; clear P1; have P1 := Lib.hid rP1; clear rP1
    have rFo27 := Fo27.out.below hb'; clear Fo27; have Fo27 := Lib.hid rFo27; clear rFo27
    have rFo29 := Fo29.out.below hb'; clear Fo29; have Fo29 := Lib.hid rFo29; clear rFo29
    have rFo31 := Fo31.out.below hb'; clear Fo31; have Fo31 := Lib.hid rFo31; clear rFo31
    have rFo37 := Fo37.out.below hb'; clear Fo37; have Fo37 := Lib.hid rFo37; clear rFo37
    have rFo41 := Fo41.out.below hb'; clear Fo41; have Fo41 := Lib.hid rFo41; clear rFo41
    have rB := below_chain B.out (by omega) hb'; clear B; have B := Lib.hid rB; clear rB
    have em11 : Below w9.heap.size w9 w11 := below_chain em10 (by omega) hb'
    clear hb hb'
    go_wp2_with fail
    refine hK _ _ ⟨⟨_, em11⟩, rfl⟩ ?_
    clear hK K
    repeat (first | (refine Mix.wpMix_read (by rfl) ?_; go_big_quiet_step (fail); refine wpQuiet_nil ?_) | (refine Mix.wpMix_pure (by rfl) ?_; go_big_quiet_step (fail); refine wpQuiet_nil ?_))
    (refine Mix.wpMix_nil ?_; try simp only [Exit.then])
    clear fx_c9_a0_0
    clear fx_c9_a0_1
    clear fx_c9_a0_2
    clear fx_c9_a1_0
    clear fx_c9_a1_1
    clear fx_c9_a1_2
    clear fx_c9_o27_0
    clear fx_c9_o27_1
    clear fx_c9_o27_2
    clear fx_c9_o29_0
    clear fx_c9_o29_1
    clear fx_c9_o29_2
    clear fx_c9_o31_0
    clear fx_c9_o31_1
    clear fx_c9_o31_2
    clear fx_c9_o37_0
    clear fx_c9_o37_1
    clear fx_c9_o37_2
    clear Fo41
    go_wp2_with fail
    refine (markMachine_c _ _ _ _ _ _ _ _ _ _ (by exact (Fo29.out)) (by omega) (by omega) (by omega)).mono ?_
    rintro e w12 ⟨rfl, q12, hk⟩
    have hk' : KeepR w3.heap.size w4.heap.size w11 w12 := (by first | (with_reducible exact hk) | (with_reducible exact hk.up1) | (with_reducible exact hk.up1.up1))
    have z12 := hk'.size
    have c12_a0_0 : w12.cell? ⟨w.heap.size, 0, none⟩ = some (.int .i64 sy0) := hk'.cell (by simp <;> omega) c11_a0_0
    clear c11_a0_0 ac11_a0_0
    have c12_a0_1 : w12.cell? ⟨w.heap.size, 1, none⟩ = some (.int .i64 st0) := hk'.cell (by simp <;> omega) c11_a0_1
    clear c11_a0_1 ac11_a0_1
    have c12_a0_2 : w12.cell? ⟨w.heap.size, 2, none⟩ = some (.slice A0 n0 c0) := hk'.cell (by simp <;> omega) c11_a0_2
    clear c11_a0_2 ac11_a0_2
    have c12_a1_0 : w12.cell? ⟨(w.heap.size + 1), 0, none⟩ = some (.int .i64 st1) := hk'.cell (by simp <;> omega) c11_a1_0
    clear c11_a1_0 ac11_a1_0
    have c12_a1_1 : w12.cell? ⟨(w.heap.size + 1), 1, none⟩ = some (.int .i64 at1) := hk'.cell (by simp <;> omega) c11_a1_1
    clear c11_a1_1 ac11_a1_1
    have c12_a1_2 : w12.cell? ⟨(w.heap.size + 1), 2, none⟩ = some (.slice A1 n1 c1) := hk'.cell (by simp <;> omega) c11_a1_2
    clear c11_a1_2 ac11_a1_2
    have c12_o27_0 : w12.cell? ⟨g14, 0, none⟩ = some (.int .i64 (fwR sy0 st0 xs0 st1 at1 xs1 x2).1.1) := hk'.cell (by simp <;> omega) c11_o27_0
    clear c11_o27_0 ac11_o27_0
    have c12_o27_1 : w12.cell? ⟨g14, 1, none⟩ = some (.int .i64 (fwR sy0 st0 xs0 st1 at1 xs1 x2).1.2.1) := hk'.cell (by simp <;> omega) c11_o27_1
    clear c11_o27_1 ac11_o27_1
    have c12_o27_2 : w12.cell? ⟨g14, 2, none⟩ = some (.slice A11 n12 c13) := hk'.cell (by simp <;> omega) c11_o27_2
    clear c11_o27_2 ac11_o27_2
    have c12_o29_0 : w12.cell? ⟨w4.heap.size, 0, none⟩ = some (.int .i64 sy0) := hk'.cell (by simp <;> omega) c11_o29_0
    clear c11_o29_0 ac11_o29_0
    have c12_o29_1 : w12.cell? ⟨w4.heap.size, 1, none⟩ = some (.int .i64 st0) := hk'.cell (by simp <;> omega) c11_o29_1
    clear c11_o29_1 ac11_o29_1
    have c12_o29_2 : w12.cell? ⟨w4.heap.size, 2, none⟩ = some (.slice (some ⟨g028, 0, none⟩) n0 n0) := hk'.cell (by simp <;> omega) c11_o29_2
    clear c11_o29_2 ac11_o29_2
    have c12_o31_0 : w12.cell? ⟨w5.heap.size, 0, none⟩ = some (.int .i64 st1) := hk'.cell (by simp <;> omega) c11_o31_0
    clear c11_o31_0 ac11_o31_0
    have c12_o31_1 : w12.cell? ⟨w5.heap.size, 1, none⟩ = some (.int .i64 at1) := hk'.cell (by simp <;> omega) c11_o31_1
    clear c11_o31_1 ac11_o31_1
    have c12_o31_2 : w12.cell? ⟨w5.heap.size, 2, none⟩ = some (.slice (some ⟨g030, 0, none⟩) n1 n1) := hk'.cell (by simp <;> omega) c11_o31_2
    clear c11_o31_2 ac11_o31_2
    have c12_o37_0 : w12.cell? ⟨w6.heap.size, 0, none⟩ = some (.int .i64 (fwR sy0 st0 xs0 st1 at1 xs1 x2).1.1) := hk'.cell (by simp <;> omega) c11_o37_0
    clear c11_o37_0 ac11_o37_0
    have c12_o37_1 : w12.cell? ⟨w6.heap.size, 1, none⟩ = some (.int .i64 (fwR sy0 st0 xs0 st1 at1 xs1 x2).1.2.1) := hk'.cell (by simp <;> omega) c11_o37_1
    clear c11_o37_1 ac11_o37_1
    have c12_o37_2 : w12.cell? ⟨w6.heap.size, 2, none⟩ = some (.slice A32 n33 c34) := hk'.cell (by simp <;> omega) c11_o37_2
    clear c11_o37_2 ac11_o37_2
    have ac12_a0_0 := fun o => keepa o c12_a0_0
    have ac12_a0_1 := fun o => keepa o c12_a0_1
    have ac12_a0_2 := fun o => keepa o c12_a0_2
    have ac12_a1_0 := fun o => keepa o c12_a1_0
    have ac12_a1_1 := fun o => keepa o c12_a1_1
    have ac12_a1_2 := fun o => keepa o c12_a1_2
    have ac12_o27_0 := fun o => keepa o c12_o27_0
    have ac12_o27_1 := fun o => keepa o c12_o27_1
    have ac12_o27_2 := fun o => keepa o c12_o27_2
    have ac12_o29_0 := fun o => keepa o c12_o29_0
    have ac12_o29_1 := fun o => keepa o c12_o29_1
    have ac12_o29_2 := fun o => keepa o c12_o29_2
    have ac12_o31_0 := fun o => keepa o c12_o31_0
    have ac12_o31_1 := fun o => keepa o c12_o31_1
    have ac12_o31_2 := fun o => keepa o c12_o31_2
    have ac12_o37_0 := fun o => keepa o c12_o37_0
    have ac12_o37_1 := fun o => keepa o c12_o37_1
    have ac12_o37_2 := fun o => keepa o c12_o37_2
    have rP0 := P0.out.keep hk' (by omega); clear P0; have P0 := Lib.hid rP0; clear rP0
    have rP1 := P1.out.keep hk' (by omega); clear P1; have P1 := Lib.hid rP1; clear rP1
    have rFo27 := Fo27.out.keep hk' (by omega); clear Fo27; have Fo27 := Lib.hid rFo27; clear rFo27
    have rFo29 := q12; clear Fo29; have Fo29 := Lib.hid rFo29; clear rFo29 q12
    have rFo31 := Fo31.out.keep hk' (by omega); clear Fo31; have Fo31 := Lib.hid rFo31; clear rFo31
    have rFo37 := Fo37.out.keep hk' (by omega); clear Fo37; have Fo37 := Lib.hid rFo37; clear rFo37
    have rB := B.out.trans (hk'.below (B := w.heap.size) (by omega) (by omega)); clear B; have B := Lib.hid rB; clear rB
    clear hk hk'
    go_wp2_with fail
    refine (markPartial_c _ _ _ _ _ _ _ _ _ _ (by exact (Fo31.out)) (by omega) (by omega) (by omega)).mono ?_
    rintro e w13 ⟨rfl, q13, hk⟩
    have hk' : KeepR (w4.heap.size + 1) w5.heap.size w12 w13 := (by first | (with_reducible exact hk) | (with_reducible exact hk.up1) | (with_reducible exact hk.up1.up1))
    have z13 := hk'.size
    have c13_a0_0 : w13.cell? ⟨w.heap.size, 0, none⟩ = some (.int .i64 sy0) := hk'.cell (by simp <;> omega) c12_a0_0
    clear c12_a0_0 ac12_a0_0
    have c13_a0_1 : w13.cell? ⟨w.heap.size, 1, none⟩ = some (.int .i64 st0) := hk'.cell (by simp <;> omega) c12_a0_1
    clear c12_a0_1 ac12_a0_1
    have c13_a0_2 : w13.cell? ⟨w.heap.size, 2, none⟩ = some (.slice A0 n0 c0) := hk'.cell (by simp <;> omega) c12_a0_2
    clear c12_a0_2 ac12_a0_2
    have c13_a1_0 : w13.cell? ⟨(w.heap.size + 1), 0, none⟩ = some (.int .i64 st1) := hk'.cell (by simp <;> omega) c12_a1_0
    clear c12_a1_0 ac12_a1_0
    have c13_a1_1 : w13.cell? ⟨(w.heap.size + 1), 1, none⟩ = some (.int .i64 at1) := hk'.cell (by simp <;> omega) c12_a1_1
    clear c12_a1_1 ac12_a1_1
    have c13_a1_2 : w13.cell? ⟨(w.heap.size + 1), 2, none⟩ = some (.slice A1 n1 c1) := hk'.cell (by simp <;> omega) c12_a1_2
    clear c12_a1_2 ac12_a1_2
    have c13_o27_0 : w13.cell? ⟨g14, 0, none⟩ = some (.int .i64 (fwR sy0 st0 xs0 st1 at1 xs1 x2).1.1) := hk'.cell (by simp <;> omega) c12_o27_0
    clear c12_o27_0 ac12_o27_0
    have c13_o27_1 : w13.cell? ⟨g14, 1, none⟩ = some (.int .i64 (fwR sy0 st0 xs0 st1 at1 xs1 x2).1.2.1) := hk'.cell (by simp <;> omega) c12_o27_1
    clear c12_o27_1 ac12_o27_1
    have c13_o27_2 : w13.cell? ⟨g14, 2, none⟩ = some (.slice A11 n12 c13) := hk'.cell (by simp <;> omega) c12_o27_2
    clear c12_o27_2 ac12_o27_2
    have c13_o29_0 : w13.cell? ⟨w4.heap.size, 0, none⟩ = some (.int .i64 sy0) := hk'.cell (by simp <;> omega) c12_o29_0
    clear c12_o29_0 ac12_o29_0
    have c13_o29_1 : w13.cell? ⟨w4.heap.size, 1, none⟩ = some (.int .i64 st0) := hk'.cell (by simp <;> omega) c12_o29_1
    clear c12_o29_1 ac12_o29_1
    have c13_o29_2 : w13.cell? ⟨w4.heap.size, 2, none⟩ = some (.slice (some ⟨g028, 0, none⟩) n0 n0) := hk'.cell (by simp <;> omega) c12_o29_2
    clear c12_o29_2 ac12_o29_2
    have c13_o31_0 : w13.cell? ⟨w5.heap.size, 0, none⟩ = some (.int .i64 st1) := hk'.cell (by simp <;> omega) c12_o31_0
    clear c12_o31_0 ac12_o31_0
    have c13_o31_1 : w13.cell? ⟨w5.heap.size, 1, none⟩ = some (.int .i64 at1) := hk'.cell (by simp <;> omega) c12_o31_1
    clear c12_o31_1 ac12_o31_1
    have c13_o31_2 : w13.cell? ⟨w5.heap.size, 2, none⟩ = some (.slice (some ⟨g030, 0, none⟩) n1 n1) := hk'.cell (by simp <;> omega) c12_o31_2
    clear c12_o31_2 ac12_o31_2
    have c13_o37_0 : w13.cell? ⟨w6.heap.size, 0, none⟩ = some (.int .i64 (fwR sy0 st0 xs0 st1 at1 xs1 x2).1.1) := hk'.cell (by simp <;> omega) c12_o37_0
    clear c12_o37_0 ac12_o37_0
    have c13_o37_1 : w13.cell? ⟨w6.heap.size, 1, none⟩ = some (.int .i64 (fwR sy0 st0 xs0 st1 at1 xs1 x2).1.2.1) := hk'.cell (by simp <;> omega) c12_o37_1
    clear c12_o37_1 ac12_o37_1
    have c13_o37_2 : w13.cell? ⟨w6.heap.size, 2, none⟩ = some (.slice A32 n33 c34) := hk'.cell (by simp <;> omega) c12_o37_2
    clear c12_o37_2 ac12_o37_2
    have ac13_a0_0 := fun o => keepa o c13_a0_0
    have ac13_a0_1 := fun o => keepa o c13_a0_1
    have ac13_a0_2 := fun o => keepa o c13_a0_2
    have ac13_a1_0 := fun o => keepa o c13_a1_0
    have ac13_a1_1 := fun o => keepa o c13_a1_1
    have ac13_a1_2 := fun o => keepa o c13_a1_2
    have ac13_o27_0 := fun o => keepa o c13_o27_0
    have ac13_o27_1 := fun o => keepa o c13_o27_1
    have ac13_o27_2 := fun o => keepa o c13_o27_2
    have ac13_o29_0 := fun o => keepa o c13_o29_0
    have ac13_o29_1 := fun o => keepa o c13_o29_1
    have ac13_o29_2 := fun o => keepa o c13_o29_2
    have ac13_o31_0 := fun o => keepa o c13_o31_0
    have ac13_o31_1 := fun o => keepa o c13_o31_1
    have ac13_o31_2 := fun o => keepa o c13_o31_2
    have ac13_o37_0 := fun o => keepa o c13_o37_0
    have ac13_o37_1 := fun o => keepa o c13_o37_1
    have ac13_o37_2 := fun o => keepa o c13_o37_2
    have rP0 := P0.out.keep hk' (by omega); clear P0; have P0 := Lib.hid rP0; clear rP0
    have rP1 := P1.out.keep hk' (by omega); clear P1; have P1 := Lib.hid rP1; clear rP1
    have rFo27 := Fo27.out.keep hk' (by omega); clear Fo27; have Fo27 := Lib.hid rFo27; clear rFo27
    have rFo29 := Fo29.out.keep hk' (by omega); clear Fo29; have Fo29 := Lib.hid rFo29; clear rFo29
    have rFo31 := q13; clear Fo31; have Fo31 := Lib.hid rFo31; clear rFo31 q13
    have rFo37 := Fo37.out.keep hk' (by omega); clear Fo37; have Fo37 := Lib.hid rFo37; clear rFo37
    have rB := B.out.trans (hk'.below (B := w.heap.size) (by omega) (by omega)); clear B; have B := Lib.hid rB; clear rB
    clear hk hk'
    go_wp2_with fail
    refine (eqPartial_t _ _ _ _ _ _ _ _ _ _ (by exact (Fo37.out.rd)) (by exact (Fo27.out.rd)) (by omega)).mono ?_
    rintro e w14 ⟨rfl, hb⟩
    have hb' : Below w13.heap.size w13 w14 := (by first | (with_reducible exact hb) | (with_reducible exact up1 hb) | (with_reducible exact up2 hb) | (with_reducible exact up3 hb) | (with_reducible exact up4 hb) | (with_reducible exact below_of_drew hb) | (with_reducible exact below_of_drew (up1 hb)))
    have z14 := hb'.size
    have c14_a0_0 : w14.cell? ⟨w.heap.size, 0, none⟩ = some (.int .i64 sy0) := keepc hb' c13_a0_0
    clear c13_a0_0 ac13_a0_0
    have c14_a0_1 : w14.cell? ⟨w.heap.size, 1, none⟩ = some (.int .i64 st0) := keepc hb' c13_a0_1
    clear c13_a0_1 ac13_a0_1
    have c14_a0_2 : w14.cell? ⟨w.heap.size, 2, none⟩ = some (.slice A0 n0 c0) := keepc hb' c13_a0_2
    clear c13_a0_2 ac13_a0_2
    have c14_a1_0 : w14.cell? ⟨(w.heap.size + 1), 0, none⟩ = some (.int .i64 st1) := keepc hb' c13_a1_0
    clear c13_a1_0 ac13_a1_0
    have c14_a1_1 : w14.cell? ⟨(w.heap.size + 1), 1, none⟩ = some (.int .i64 at1) := keepc hb' c13_a1_1
    clear c13_a1_1 ac13_a1_1
    have c14_a1_2 : w14.cell? ⟨(w.heap.size + 1), 2, none⟩ = some (.slice A1 n1 c1) := keepc hb' c13_a1_2
    clear c13_a1_2 ac13_a1_2
    have c14_o27_0 : w14.cell? ⟨g14, 0, none⟩ = some (.int .i64 (fwR sy0 st0 xs0 st1 at1 xs1 x2).1.1) := keepc hb' c13_o27_0
    clear c13_o27_0 ac13_o27_0
    have c14_o27_1 : w14.cell? ⟨g14, 1, none⟩ = some (.int .i64 (fwR sy0 st0 xs0 st1 at1 xs1 x2).1.2.1) := keepc hb' c13_o27_1
    clear c13_o27_1 ac13_o27_1
    have c14_o27_2 : w14.cell? ⟨g14, 2, none⟩ = some (.slice A11 n12 c13) := keepc hb' c13_o27_2
    clear c13_o27_2 ac13_o27_2
    have c14_o29_0 : w14.cell? ⟨w4.heap.size, 0, none⟩ = some (.int .i64 sy0) := keepc hb' c13_o29_0
    clear c13_o29_0 ac13_o29_0
    have c14_o29_1 : w14.cell? ⟨w4.heap.size, 1, none⟩ = some (.int .i64 st0) := keepc hb' c13_o29_1
    clear c13_o29_1 ac13_o29_1
    have c14_o29_2 : w14.cell? ⟨w4.heap.size, 2, none⟩ = some (.slice (some ⟨g028, 0, none⟩) n0 n0) := keepc hb' c13_o29_2
    clear c13_o29_2 ac13_o29_2
    have c14_o31_0 : w14.cell? ⟨w5.heap.size, 0, none⟩ = some (.int .i64 st1) := keepc hb' c13_o31_0
    clear c13_o31_0 ac13_o31_0
    have c14_o31_1 : w14.cell? ⟨w5.heap.size, 1, none⟩ = some (.int .i64 at1) := keepc hb' c13_o31_1
    clear c13_o31_1 ac13_o31_1
    have c14_o31_2 : w14.cell? ⟨w5.heap.size, 2, none⟩ = some (.slice (some ⟨g030, 0, none⟩) n1 n1) := keepc hb' c13_o31_2
    clear c13_o31_2 ac13_o31_2
    have c14_o37_0 : w14.cell? ⟨w6.heap.size, 0, none⟩ = some (.int .i64 (fwR sy0 st0 xs0 st1 at1 xs1 x2).1.1) := keepc hb' c13_o37_0
    clear c13_o37_0 ac13_o37_0
    have c14_o37_1 : w14.cell? ⟨w6.heap.size, 1, none⟩ = some (.int .i64 (fwR sy0 st0 xs0 st1 at1 xs1 x2).1.2.1) := keepc hb' c13_o37_1
    clear c13_o37_1 ac13_o37_1
    have c14_o37_2 : w14.cell? ⟨w6.heap.size, 2, none⟩ = some (.slice A32 n33 c34) := keepc hb' c13_o37_2
    clear c13_o37_2 ac13_o37_2
    have ac14_a0_0 := fun o => keepa o c14_a0_0
    have ac14_a0_1 := fun o => keepa o c14_a0_1
    have ac14_a0_2 := fun o => keepa o c14_a0_2
    have ac14_a1_0 := fun o => keepa o c14_a1_0
    have ac14_a1_1 := fun o => keepa o c14_a1_1
    have ac14_a1_2 := fun o => keepa o c14_a1_2
    have ac14_o27_0 := fun o => keepa o c14_o27_0
    have ac14_o27_1 := fun o => keepa o c14_o27_1
    have ac14_o27_2 := fun o => keepa o c14_o27_2
    have ac14_o29_0 := fun o => keepa o c14_o29_0
    have ac14_o29_1 := fun o => keepa o c14_o29_1
    have ac14_o29_2 := fun o => keepa o c14_o29_2
    have ac14_o31_0 := fun o => keepa o c14_o31_0
    have ac14_o31_1 := fun o => keepa o c14_o31_1
    have ac14_o31_2 := fun o => keepa o c14_o31_2
    have ac14_o37_0 := fun o => keepa o c14_o37_0
    have ac14_o37_1 := fun o => keepa o c14_o37_1
    have ac14_o37_2 := fun o => keepa o c14_o37_2
    have rP0 := P0.out.below hb'; clear P0; have P0 := Lib.hid rP0; clear rP0
    have rP1 := P1.out.below hb'; clear P1; have P1 := Lib.hid rP1; clear rP1
    have rFo27 := Fo27.out.below hb'; clear Fo27; have Fo27 := Lib.hid rFo27; clear rFo27
    have rFo29 := Fo29.out.below hb'; clear Fo29; have Fo29 := Lib.hid rFo29; clear rFo29
    have rFo31 := Fo31.out.below hb'; clear Fo31; have Fo31 := Lib.hid rFo31; clear rFo31
    have rFo37 := Fo37.out.below hb'; clear Fo37; have Fo37 := Lib.hid rFo37; clear rFo37
    have rB := below_chain B.out (by omega) hb'; clear B; have B := Lib.hid rB; clear rB
    clear hb hb'
    go_wp2_with fail
    refine (markPartial_c _ _ _ _ _ _ _ _ _ _ (by exact (Fo37.out)) (by omega) (by omega) (by omega)).mono ?_
    rintro e w15 ⟨rfl, q15, hk⟩
    have hk' : KeepR (w5.heap.size + 1) w6.heap.size w14 w15 := (by first | (with_reducible exact hk) | (with_reducible exact hk.up1) | (with_reducible exact hk.up1.up1))
    have z15 := hk'.size
    have c15_a0_0 : w15.cell? ⟨w.heap.size, 0, none⟩ = some (.int .i64 sy0) := hk'.cell (by simp <;> omega) c14_a0_0
    clear c14_a0_0 ac14_a0_0
    have c15_a0_1 : w15.cell? ⟨w.heap.size, 1, none⟩ = some (.int .i64 st0) := hk'.cell (by simp <;> omega) c14_a0_1
    clear c14_a0_1 ac14_a0_1
    have c15_a0_2 : w15.cell? ⟨w.heap.size, 2, none⟩ = some (.slice A0 n0 c0) := hk'.cell (by simp <;> omega) c14_a0_2
    clear c14_a0_2 ac14_a0_2
    have c15_a1_0 : w15.cell? ⟨(w.heap.size + 1), 0, none⟩ = some (.int .i64 st1) := hk'.cell (by simp <;> omega) c14_a1_0
    clear c14_a1_0 ac14_a1_0
    have c15_a1_1 : w15.cell? ⟨(w.heap.size + 1), 1, none⟩ = some (.int .i64 at1) := hk'.cell (by simp <;> omega) c14_a1_1
    clear c14_a1_1 ac14_a1_1
    have c15_a1_2 : w15.cell? ⟨(w.heap.size + 1), 2, none⟩ = some (.slice A1 n1 c1) := hk'.cell (by simp <;> omega) c14_a1_2
    clear c14_a1_2 ac14_a1_2
    have c15_o27_0 : w15.cell? ⟨g14, 0, none⟩ = some (.int .i64 (fwR sy0 st0 xs0 st1 at1 xs1 x2).1.1) := hk'.cell (by simp <;> omega) c14_o27_0
    clear c14_o27_0 ac14_o27_0
    have c15_o27_1 : w15.cell? ⟨g14, 1, none⟩ = some (.int .i64 (fwR sy0 st0 xs0 st1 at1 xs1 x2).1.2.1) := hk'.cell (by simp <;> omega) c14_o27_1
    clear c14_o27_1 ac14_o27_1
    have c15_o27_2 : w15.cell? ⟨g14, 2, none⟩ = some (.slice A11 n12 c13) := hk'.cell (by simp <;> omega) c14_o27_2
    clear c14_o27_2 ac14_o27_2
    have c15_o29_0 : w15.cell? ⟨w4.heap.size, 0, none⟩ = some (.int .i64 sy0) := hk'.cell (by simp <;> omega) c14_o29_0
    clear c14_o29_0 ac14_o29_0
    have c15_o29_1 : w15.cell? ⟨w4.heap.size, 1, none⟩ = some (.int .i64 st0) := hk'.cell (by simp <;> omega) c14_o29_1
    clear c14_o29_1 ac14_o29_1
    have c15_o29_2 : w15.cell? ⟨w4.heap.size, 2, none⟩ = some (.slice (some ⟨g028, 0, none⟩) n0 n0) := hk'.cell (by simp <;> omega) c14_o29_2
    clear c14_o29_2 ac14_o29_2
    have c15_o31_0 : w15.cell? ⟨w5.heap.size, 0, none⟩ = some (.int .i64 st1) := hk'.cell (by simp <;> omega) c14_o31_0
    clear c14_o31_0 ac14_o31_0
    have c15_o31_1 : w15.cell? ⟨w5.heap.size, 1, none⟩ = some (.int .i64 at1) := hk'.cell (by simp <;> omega) c14_o31_1
    clear c14_o31_1 ac14_o31_1
    have c15_o31_2 : w15.cell? ⟨w5.heap.size, 2, none⟩ = some (.slice (some ⟨g030, 0, none⟩) n1 n1) := hk'.cell (by simp <;> omega) c14_o31_2
    clear c14_o31_2 ac14_o31_2
    have c15_o37_0 : w15.cell? ⟨w6.heap.size, 0, none⟩ = some (.int .i64 (fwR sy0 st0 xs0 st1 at1 xs1 x2).1.1) := hk'.cell (by simp <;> omega) c14_o37_0
    clear c14_o37_0 ac14_o37_0
    have c15_o37_1 : w15.cell? ⟨w6.heap.size, 1, none⟩ = some (.int .i64 (fwR sy0 st0 xs0 st1 at1 xs1 x2).1.2.1) := hk'.cell (by simp <;> omega) c14_o37_1
    clear c14_o37_1 ac14_o37_1
    have c15_o37_2 : w15.cell? ⟨w6.heap.size, 2, none⟩ = some (.slice A32 n33 c34) := hk'.cell (by simp <;> omega) c14_o37_2
    clear c14_o37_2 ac14_o37_2
    have ac15_a0_0 := fun o => keepa o c15_a0_0
    have ac15_a0_1 := fun o => keepa o c15_a0_1
    have ac15_a0_2 := fun o => keepa o c15_a0_2
    have ac15_a1_0 := fun o => keepa o c15_a1_0
    have ac15_a1_1 := fun o => keepa o c15_a1_1
    have ac15_a1_2 := fun o => keepa o c15_a1_2
    have ac15_o27_0 := fun o => keepa o c15_o27_0
    have ac15_o27_1 := fun o => keepa o c15_o27_1
    have ac15_o27_2 := fun o => keepa o c15_o27_2
    have ac15_o29_0 := fun o => keepa o c15_o29_0
    have ac15_o29_1 := fun o => keepa o c15_o29_1
    have ac15_o29_2 := fun o => keepa o c15_o29_2
    have ac15_o31_0 := fun o => keepa o c15_o31_0
    have ac15_o31_1 := fun o => keepa o c15_o31_1
    have ac15_o31_2 := fun o => keepa o c15_o31_2
    have ac15_o37_0 := fun o => keepa o c15_o37_0
    have ac15_o37_1 := fun o => keepa o c15_o37_1
    have ac15_o37_2 := fun o => keepa o c15_o37_2
    have rP0 := P0.out.keep hk' (by omega); clear P0; have P0 := Lib.hid rP0; clear rP0
    have rP1 := P1.out.keep hk' (by omega); clear P1; have P1 := Lib.hid rP1; clear rP1
    have rFo27 := Fo27.out.keep hk' (by omega); clear Fo27; have Fo27 := Lib.hid rFo27; clear rFo27
    have rFo29 := Fo29.out.keep hk' (by omega); clear Fo29; have Fo29 := Lib.hid rFo29; clear rFo29
    have rFo31 := Fo31.out.keep hk' (by omega); clear Fo31; have Fo31 := Lib.hid rFo31; clear rFo31
    have rFo37 := q15; clear Fo37; have Fo37 := Lib.hid rFo37; clear rFo37 q15
    have rB := B.out.trans (hk'.below (B := w.heap.size) (by omega) (by omega)); clear B; have B := Lib.hid rB; clear rB
    clear hk hk'
    go_wp2_with fail
    refine (heldPartial_c _ _ _ _ _ _ _ _ (by exact (Fo37.out.rd)) (by omega) (by omega) (by omega)).mono ?_
    rintro e w16 ⟨rfl, hb⟩
    have hb' : Below w15.heap.size w15 w16 := (by first | (with_reducible exact hb) | (with_reducible exact up1 hb) | (with_reducible exact up2 hb) | (with_reducible exact up3 hb) | (with_reducible exact up4 hb) | (with_reducible exact below_of_drew hb) | (with_reducible exact below_of_drew (up1 hb)))
    have z16 := hb'.size
    have c16_a0_0 : w16.cell? ⟨w.heap.size, 0, none⟩ = some (.int .i64 sy0) := keepc hb' c15_a0_0
    clear c15_a0_0 ac15_a0_0
    have c16_a0_1 : w16.cell? ⟨w.heap.size, 1, none⟩ = some (.int .i64 st0) := keepc hb' c15_a0_1
    clear c15_a0_1 ac15_a0_1
    have c16_a0_2 : w16.cell? ⟨w.heap.size, 2, none⟩ = some (.slice A0 n0 c0) := keepc hb' c15_a0_2
    clear c15_a0_2 ac15_a0_2
    have c16_a1_0 : w16.cell? ⟨(w.heap.size + 1), 0, none⟩ = some (.int .i64 st1) := keepc hb' c15_a1_0
    clear c15_a1_0 ac15_a1_0
    have c16_a1_1 : w16.cell? ⟨(w.heap.size + 1), 1, none⟩ = some (.int .i64 at1) := keepc hb' c15_a1_1
    clear c15_a1_1 ac15_a1_1
    have c16_a1_2 : w16.cell? ⟨(w.heap.size + 1), 2, none⟩ = some (.slice A1 n1 c1) := keepc hb' c15_a1_2
    clear c15_a1_2 ac15_a1_2
    have c16_o27_0 : w16.cell? ⟨g14, 0, none⟩ = some (.int .i64 (fwR sy0 st0 xs0 st1 at1 xs1 x2).1.1) := keepc hb' c15_o27_0
    clear c15_o27_0 ac15_o27_0
    have c16_o27_1 : w16.cell? ⟨g14, 1, none⟩ = some (.int .i64 (fwR sy0 st0 xs0 st1 at1 xs1 x2).1.2.1) := keepc hb' c15_o27_1
    clear c15_o27_1 ac15_o27_1
    have c16_o27_2 : w16.cell? ⟨g14, 2, none⟩ = some (.slice A11 n12 c13) := keepc hb' c15_o27_2
    clear c15_o27_2 ac15_o27_2
    have c16_o29_0 : w16.cell? ⟨w4.heap.size, 0, none⟩ = some (.int .i64 sy0) := keepc hb' c15_o29_0
    clear c15_o29_0 ac15_o29_0
    have c16_o29_1 : w16.cell? ⟨w4.heap.size, 1, none⟩ = some (.int .i64 st0) := keepc hb' c15_o29_1
    clear c15_o29_1 ac15_o29_1
    have c16_o29_2 : w16.cell? ⟨w4.heap.size, 2, none⟩ = some (.slice (some ⟨g028, 0, none⟩) n0 n0) := keepc hb' c15_o29_2
    clear c15_o29_2 ac15_o29_2
    have c16_o31_0 : w16.cell? ⟨w5.heap.size, 0, none⟩ = some (.int .i64 st1) := keepc hb' c15_o31_0
    clear c15_o31_0 ac15_o31_0
    have c16_o31_1 : w16.cell? ⟨w5.heap.size, 1, none⟩ = some (.int .i64 at1) := keepc hb' c15_o31_1
    clear c15_o31_1 ac15_o31_1
    have c16_o31_2 : w16.cell? ⟨w5.heap.size, 2, none⟩ = some (.slice (some ⟨g030, 0, none⟩) n1 n1) := keepc hb' c15_o31_2
    clear c15_o31_2 ac15_o31_2
    have c16_o37_0 : w16.cell? ⟨w6.heap.size, 0, none⟩ = some (.int .i64 (fwR sy0 st0 xs0 st1 at1 xs1 x2).1.1) := keepc hb' c15_o37_0
    clear c15_o37_0 ac15_o37_0
    have c16_o37_1 : w16.cell? ⟨w6.heap.size, 1, none⟩ = some (.int .i64 (fwR sy0 st0 xs0 st1 at1 xs1 x2).1.2.1) := keepc hb' c15_o37_1
    clear c15_o37_1 ac15_o37_1
    have c16_o37_2 : w16.cell? ⟨w6.heap.size, 2, none⟩ = some (.slice A32 n33 c34) := keepc hb' c15_o37_2
    clear c15_o37_2 ac15_o37_2
    have ac16_a0_0 := fun o => keepa o c16_a0_0
    have ac16_a0_1 := fun o => keepa o c16_a0_1
    have ac16_a0_2 := fun o => keepa o c16_a0_2
    have ac16_a1_0 := fun o => keepa o c16_a1_0
    have ac16_a1_1 := fun o => keepa o c16_a1_1
    have ac16_a1_2 := fun o => keepa o c16_a1_2
    have ac16_o27_0 := fun o => keepa o c16_o27_0
    have ac16_o27_1 := fun o => keepa o c16_o27_1
    have ac16_o27_2 := fun o => keepa o c16_o27_2
    have ac16_o29_0 := fun o => keepa o c16_o29_0
    have ac16_o29_1 := fun o => keepa o c16_o29_1
    have ac16_o29_2 := fun o => keepa o c16_o29_2
    have ac16_o31_0 := fun o => keepa o c16_o31_0
    have ac16_o31_1 := fun o => keepa o c16_o31_1
    have ac16_o31_2 := fun o => keepa o c16_o31_2
    have ac16_o37_0 := fun o => keepa o c16_o37_0
    have ac16_o37_1 := fun o => keepa o c16_o37_1
    have ac16_o37_2 := fun o => keepa o c16_o37_2
    have rP0 := P0.out.below hb'; clear P0; have P0 := Lib.hid rP0; clear rP0
    have rP1 := P1.out.below hb'; clear P1; have P1 := Lib.hid rP1; clear rP1
    have rFo27 := Fo27.out.below hb'; clear Fo27; have Fo27 := Lib.hid rFo27; clear rFo27
    have rFo29 := Fo29.out.below hb'; clear Fo29; have Fo29 := Lib.hid rFo29; clear rFo29
    have rFo31 := Fo31.out.below hb'; clear Fo31; have Fo31 := Lib.hid rFo31; clear rFo31
    have rFo37 := Fo37.out.below hb'; clear Fo37; have Fo37 := Lib.hid rFo37; clear rFo37
    have rB := below_chain B.out (by omega) hb'; clear B; have B := Lib.hid rB; clear rB
    clear hb hb'
    go_wp2_with fail
    go_cut [21, 22, 23, 24] (fun v0 v1 v2 v3 wx => ∃ (g45 : Nat) (A42 : Option Addr) (n43 : Nat) (c44 : Nat), v0 = .pointer (some ⟨g45, 0, none⟩) ∧ v1 = .int .i64 (fwR sy0 st0 xs0 st1 at1 xs1 x2).2.1 ∧ v2 = .int .i64 (fwR sy0 st0 xs0 st1 at1 xs1 x2).2.2.1 ∧ v3 = .int .i64 (fwR sy0 st0 xs0 st1 at1 xs1 x2).2.2.2 ∧ wx.cell? ⟨g45, 0, none⟩ = some (.int .i64 (fwR sy0 st0 xs0 st1 at1 xs1 x2).1.1) ∧ wx.cell? ⟨g45, 1, none⟩ = some (.int .i64 (fwR sy0 st0 xs0 st1 at1 xs1 x2).1.2.1) ∧ wx.cell? ⟨g45, 2, none⟩ = some (.slice A42 n43 c44) ∧ WrS wx w16.heap.size wx.heap.size [sgI A42 n43 (fwR sy0 st0 xs0 st1 at1 xs1 x2).1.2.2] ∧ n43 ≤ 1000000 ∧ w16.heap.size ≤ g45 ∧ Below w16.heap.size w16 wx)
    case first =>
      have fx_c16_a0_0 := Ext.cell c16_a0_0
      have fx_c16_a0_1 := Ext.cell c16_a0_1
      have fx_c16_a0_2 := Ext.cell c16_a0_2
      have fx_c16_a1_0 := Ext.cell c16_a1_0
      have fx_c16_a1_1 := Ext.cell c16_a1_1
      have fx_c16_a1_2 := Ext.cell c16_a1_2
      have fx_c16_o27_0 := Ext.cell c16_o27_0
      have fx_c16_o27_1 := Ext.cell c16_o27_1
      have fx_c16_o27_2 := Ext.cell c16_o27_2
      have fx_c16_o29_0 := Ext.cell c16_o29_0
      have fx_c16_o29_1 := Ext.cell c16_o29_1
      have fx_c16_o29_2 := Ext.cell c16_o29_2
      have fx_c16_o31_0 := Ext.cell c16_o31_0
      have fx_c16_o31_1 := Ext.cell c16_o31_1
      have fx_c16_o31_2 := Ext.cell c16_o31_2
      have fx_c16_o37_0 := Ext.cell c16_o37_0
      have fx_c16_o37_1 := Ext.cell c16_o37_1
      have fx_c16_o37_2 := Ext.cell c16_o37_2
      refine Mix.wp_region_mixF 11 [3, 1, 3, 1, 0, 1, 0, 0, 0, 0, 0, 1, 2, 0, 0, 0] (fun w' => ∃ x : Ext w16, w' = x.w) (by kernel_rfl) (by kernel_rfl) (InExt.drew _) _ _ (by rfl) ?_
      simp only [List.take_succ_cons, List.take_zero, List.drop_succ_cons, List.drop_zero]
      have e0 : Below w16.heap.size w16 w16.drew := InExt.out (InExt.drew _)
      refine Mix.wpF_3 ?_
      (refine Mix.wpMix_read (by rfl) ?_; go_big_quiet_step (fail); refine wpQuiet_nil ?_)
      refine Mix.wpMix_nil ?_
      refine Mix.wpF_1 ?_ ?_
      · simp only [List.cons_append, List.nil_append]
        have e0p := e0
        refine Mix.wpMix_chg (by rfl) (fun K hK => ?_)
        go_wp2_with fail
        refine hK _ _ ⟨⟨_, e0.alloc e0.size _⟩, rfl⟩ ?_
        clear hK K
        have bk : Blk (w16.drew.alloc (.cells #[.int .i64 0, .int .i64 0, .slice none 0 0] 57)) w16.heap.size 57 #[.int .i64 0, .int .i64 0, .slice none 0 0] := Blk.new _ _ _
        have e0 := e0.alloc e0.size (.cells #[.int .i64 0, .int .i64 0, .slice none 0 0] 57)
        refine Mix.wpMix_chg (by rfl) (fun K hK => ?_)
        go_wp2_with fail
        refine (toMachine_c _ _ _ _ _ _ _ (by exact ((P0.out.rd).below e0)) (by omega)).mono ?_
        rintro e ua11 ⟨g048, rfl, q49, hb⟩
        have e0 := below_chain e0 e0.size hb
        have bk := bk.keep hb
        have e_q49 : Below ua11.heap.size ua11 ua11 := below_size
        have zua11 : w16.heap.size + 1 ≤ ua11.heap.size := by first | exact hb.size | exact Nat.le_trans (Nat.le_of_eq (World.size_alloc ..).symm) hb.size
        clear hb
        go_wp2_with fail
        refine hK _ _ ⟨⟨_, e0⟩, rfl⟩ ?_
        clear hK K
        (refine Mix.wpMix_read (by rfl) ?_; go_big_quiet_step (fail); refine wpQuiet_nil ?_)
        refine Mix.wpMix_chg (by rfl) (fun K hK => ?_)
        go_wp2_with fail
        refine (toPartial_c _ _ _ _ _ _ _ (by exact ((P1.out.rd).below e0)) (by omega)).mono ?_
        rintro e ua13 ⟨g050, rfl, q51, hb⟩
        have e_q49 := below_chain e_q49 e_q49.size hb
        have e0 := below_chain e0 e0.size hb
        have bk := bk.keep hb
        have e_q51 : Below ua13.heap.size ua13 ua13 := below_size
        have zua13 : ua11.heap.size ≤ ua13.heap.size := by first | exact hb.size | exact Nat.le_trans (Nat.le_of_eq (World.size_alloc ..).symm) hb.size
        clear hb
        go_wp2_with fail
        refine hK _ _ ⟨⟨_, e0⟩, rfl⟩ ?_
        clear hK K
        (refine Mix.wpMix_pure (by rfl) ?_; go_big_quiet_step (fail); refine wpQuiet_nil ?_)
        refine Mix.wpMix_chg (by rfl) (fun K hK => ?_)
        go_wp2_with fail
        refine (iForwardPartial_c _ _ _ _ _ _ _ _ _ _ _ _ _ _ (by exact (q49.below e_q49).rd) (by exact (q51.below e_q51).rd) (by omega) (by omega)).mono ?_
        rintro e ua15 ⟨A42, n43, c44, rfl, q46, l47, hb⟩
        have e_q49 := below_chain e_q49 e_q49.size hb
        have e_q51 := below_chain e_q51 e_q51.size hb
        have e0 := below_chain e0 e0.size hb
        have bk := bk.keep hb
        have e_q46 : Below ua15.heap.size ua15 ua15 := below_size
        have zua15 : ua13.heap.size ≤ ua15.heap.size := by first | exact hb.size | exact Nat.le_trans (Nat.le_of_eq (World.size_alloc ..).symm) hb.size
        have q46 : WrS ua15 (ua13.heap.size) ua15.heap.size [sgI A42 n43 (fwR sy0 st0 xs0 st1 at1 xs1 x2).1.2.2] := by first | exact q46.wider (Nat.le_refl _) (Nat.le_refl _) | exact q46.wider (Nat.le_of_eq (World.size_alloc ..).symm) (Nat.le_refl _)
        clear hb
        go_wp2_with fail
        refine hK _ _ ⟨⟨_, e0⟩, rfl⟩ ?_
        clear hK K
        (refine Mix.wpMix_pure (by rfl) ?_; go_big_quiet_step (fail); refine wpQuiet_nil ?_)
        (refine Mix.wpMix_pure (by rfl) ?_; go_big_quiet_step (fail); refine wpQuiet_nil ?_)
        (refine Mix.wpMix_pure (by rfl) ?_; go_big_quiet_step (fail); refine wpQuiet_nil ?_)
        (refine Mix.wpMix_pure (by rfl) ?_; go_big_quiet_step (fail); refine wpQuiet_nil ?_)
        (refine Mix.wpMix_pure (by rfl) ?_; go_big_quiet_step (fail); refine wpQuiet_nil ?_)
        repeat (first | (refine Mix.wpMix_read (by rfl) ?_; go_big_quiet_step (fail); refine wpQuiet_nil ?_) | (refine Mix.wpMix_pure (by rfl) ?_; go_big_quiet_step (fail); refine wpQuiet_nil ?_))
        have d0 := bk.cell 0; have f0 := bk.frozen 0
        simp at d0
        have d1 := bk.cell 1; have f1 := bk.frozen 1
        simp at d1
        have d2 := bk.cell 2; have f2 := bk.frozen 2
        simp at d2
        refine Mix.wpMix_tail (by rfl) (fun K hK => ?_)
        go_wp2_with fail
        refine hK _ _ ?_
        clear hK K
        repeat (first | (refine Mix.wpMix_read (by rfl) ?_; go_big_quiet_step (fail); refine wpQuiet_nil ?_) | (refine Mix.wpMix_pure (by rfl) ?_; go_big_quiet_step (fail); refine wpQuiet_nil ?_))
        (refine Mix.wpMix_nil ?_; try simp only [Exit.then])
        go_wp2_with fail
        go_meet
        have bk2 := (((bk.set_ 0 (.int .i64 (fwR sy0 st0 xs0 st1 at1 xs1 x2).1.1)).set_ 1 (.int .i64 (fwR sy0 st0 xs0 st1 at1 xs1 x2).1.2.1)).set_ 2 (.slice A42 n43 c44))
        refine ⟨w16.heap.size, A42, n43, c44, rfl, rfl, rfl, rfl, (by have := bk2.cell 0; first | exact this | (simp; done) | simpa using this), (by have := bk2.cell 1; first | exact this | (simp; done) | simpa using this), (by have := bk2.cell 2; first | exact this | (simp; done) | simpa using this), ?_, l47, ?_, ?_⟩
        · first | exact (q46.alloc _).wider (by first | omega | exact Nat.le_refl _ | (simp; done) | (simp; omega)) (by first | omega | exact Nat.le_refl _ | (simp; done) | (simp; omega)) | exact (((q46.set_far (.inl (by first | omega | exact Nat.le_refl _ | (simp; done) | (simp; omega))) _).set_far (.inl (by first | omega | exact Nat.le_refl _ | (simp; done) | (simp; omega))) _).set_far (.inl (by first | omega | exact Nat.le_refl _ | (simp; done) | (simp; omega))) _).wider (by first | omega | exact Nat.le_refl _ | (simp; done) | (simp; omega)) (by first | omega | exact Nat.le_refl _ | (simp; done) | (simp; omega))
        · exact (by first | omega | exact Nat.le_refl _ | (simp; done) | (simp; omega))
        · first | exact (by have hzz := (e0).size; repeat' (first | (with_reducible exact e0) | (with_reducible refine Below.alloc ?_ ?_ _) | (with_reducible refine Below.setCell ?_ ?_ _) | (with_reducible refine below_drew ?_) | omega | (simp; done) | (simp; omega))) | exact (by have hzz := (e0p).size; repeat' (first | (with_reducible exact e0p) | (with_reducible refine Below.alloc ?_ ?_ _) | (with_reducible refine Below.setCell ?_ ?_ _) | (with_reducible refine below_drew ?_) | omega | (simp; done) | (simp; omega)))
      refine Mix.wpMix_chg (by rfl) (fun K hK => ?_)
      go_wp2_with fail
      refine (toMachine_c _ _ _ _ _ _ _ (by exact ((P0.out.rd).below e0)) (by omega)).mono ?_
      rintro e u1 ⟨g052, rfl, q53, hb⟩
      have e0 := below_chain e0 e0.size hb
      have e_q53 : Below u1.heap.size u1 u1 := below_size
      have zu1 : w16.heap.size ≤ u1.heap.size := by first | exact hb.size | exact Nat.le_trans (Nat.le_of_eq (World.size_alloc ..).symm) hb.size
      clear hb
      go_wp2_with fail
      refine hK _ _ ⟨⟨_, e0⟩, rfl⟩ ?_
      clear hK K
      refine Mix.wpMix_nil ?_
      refine Mix.wpF_3 ?_
      (refine Mix.wpMix_read (by rfl) ?_; go_big_quiet_step (fail); refine wpQuiet_nil ?_)
      refine Mix.wpMix_nil ?_
      refine Mix.wpF_1 ?_ ?_
      · simp only [List.cons_append, List.nil_append]
        have e0p := e0
        refine Mix.wpMix_chg (by rfl) (fun K hK => ?_)
        go_wp2_with fail
        refine hK _ _ ⟨⟨_, e0.alloc e0.size _⟩, rfl⟩ ?_
        clear hK K
        have e_q53 := e_q53.alloc e_q53.size (.cells #[.int .i64 0, .int .i64 0, .slice none 0 0] 57)
        have bk : Blk (u1.alloc (.cells #[.int .i64 0, .int .i64 0, .slice none 0 0] 57)) u1.heap.size 57 #[.int .i64 0, .int .i64 0, .slice none 0 0] := Blk.new _ _ _
        have e0 := e0.alloc e0.size (.cells #[.int .i64 0, .int .i64 0, .slice none 0 0] 57)
        refine Mix.wpMix_chg (by rfl) (fun K hK => ?_)
        go_wp2_with fail
        refine (toPartial_c _ _ _ _ _ _ _ (by exact ((P1.out.rd).below e0)) (by omega)).mono ?_
        rintro e ua33 ⟨g054, rfl, q55, hb⟩
        have e_q53 := below_chain e_q53 e_q53.size hb
        have e0 := below_chain e0 e0.size hb
        have bk := bk.keep hb
        have e_q55 : Below ua33.heap.size ua33 ua33 := below_size
        have zua33 : u1.heap.size + 1 ≤ ua33.heap.size := by first | exact hb.size | exact Nat.le_trans (Nat.le_of_eq (World.size_alloc ..).symm) hb.size
        clear hb
        go_wp2_with fail
        refine hK _ _ ⟨⟨_, e0⟩, rfl⟩ ?_
        clear hK K
        (refine Mix.wpMix_pure (by rfl) ?_; go_big_quiet_step (fail); refine wpQuiet_nil ?_)
        refine Mix.wpMix_chg (by rfl) (fun K hK => ?_)
        go_wp2_with fail
        refine (iForwardPartial_c _ _ _ _ _ _ _ _ _ _ _ _ _ _ (by exact (q53.below e_q53).rd) (by exact (q55.below e_q55).rd) (by omega) (by omega)).mono ?_
        rintro e ua35 ⟨A42, n43, c44, rfl, q46, l47, hb⟩
        have e_q53 := below_chain e_q53 e_q53.size hb
        have e_q55 := below_chain e_q55 e_q55.size hb
        have e0 := below_chain e0 e0.size hb
        have bk := bk.keep hb
        have e_q46 : Below ua35.heap.size ua35 ua35 := below_size
        have zua35 : ua33.heap.size ≤ ua35.heap.size := by first | exact hb.size | exact Nat.le_trans (Nat.le_of_eq (World.size_alloc ..).symm) hb.size
        have q46 : WrS ua35 (ua33.heap.size) ua35.heap.size [sgI A42 n43 (fwR sy0 st0 xs0 st1 at1 xs1 x2).1.2.2] := by first | exact q46.wider (Nat.le_refl _) (Nat.le_refl _) | exact q46.wider (Nat.le_of_eq (World.size_alloc ..).symm) (Nat.le_refl _)
        clear hb
        go_wp2_with fail
        refine hK _ _ ⟨⟨_, e0⟩, rfl⟩ ?_
        clear hK K
        (refine Mix.wpMix_pure (by rfl) ?_; go_big_quiet_step (fail); refine wpQuiet_nil ?_)
        (refine Mix.wpMix_pure (by rfl) ?_; go_big_quiet_step (fail); refine wpQuiet_nil ?_)
        (refine Mix.wpMix_pure (by rfl) ?_; go_big_quiet_step (fail); refine wpQuiet_nil ?_)
        (refine Mix.wpMix_pure (by rfl) ?_; go_big_quiet_step (fail); refine wpQuiet_nil ?_)
        (refine Mix.wpMix_pure (by rfl) ?_; go_big_quiet_step (fail); refine wpQuiet_nil ?_)
        repeat (first | (refine Mix.wpMix_read (by rfl) ?_; go_big_quiet_step (fail); refine wpQuiet_nil ?_) | (refine Mix.wpMix_pure (by rfl) ?_; go_big_quiet_step (fail); refine wpQuiet_nil ?_))
        have d0 := bk.cell 0; have f0 := bk.frozen 0
        simp at d0
        have d1 := bk.cell 1; have f1 := bk.frozen 1
        simp at d1
        have d2 := bk.cell 2; have f2 := bk.frozen 2
        simp at d2
        refine Mix.wpMix_tail (by rfl) (fun K hK => ?_)
        go_wp2_with fail
        refine hK _ _ ?_
        clear hK K
        repeat (first | (refine Mix.wpMix_read (by rfl) ?_; go_big_quiet_step (fail); refine wpQuiet_nil ?_) | (refine Mix.wpMix_pure (by rfl) ?_; go_big_quiet_step (fail); refine wpQuiet_nil ?_))
        (refine Mix.wpMix_nil ?_; try simp only [Exit.then])
        go_wp2_with fail
        go_meet
        have bk2 := (((bk.set_ 0 (.int .i64 (fwR sy0 st0 xs0 st1 at1 xs1 x2).1.1)).set_ 1 (.int .i64 (fwR sy0 st0 xs0 st1 at1 xs1 x2).1.2.1)).set_ 2 (.slice A42 n43 c44))
        refine ⟨u1.heap.size, A42, n43, c44, rfl, rfl, rfl, rfl, (by have := bk2.cell 0; first | exact this | (simp; done) | simpa using this), (by have := bk2.cell 1; first | exact this | (simp; done) | simpa using this), (by have := bk2.cell 2; first | exact this | (simp; done) | simpa using this), ?_, l47, ?_, ?_⟩
        · first | exact (q46.alloc _).wider (by first | omega | exact Nat.le_refl _ | (simp; done) | (simp; omega)) (by first | omega | exact Nat.le_refl _ | (simp; done) | (simp; omega)) | exact (((q46.set_far (.inl (by first | omega | exact Nat.le_refl _ | (simp; done) | (simp; omega))) _).set_far (.inl (by first | omega | exact Nat.le_refl _ | (simp; done) | (simp; omega))) _).set_far (.inl (by first | omega | exact Nat.le_refl _ | (simp; done) | (simp; omega))) _).wider (by first | omega | exact Nat.le_refl _ | (simp; done) | (simp; omega)) (by first | omega | exact Nat.le_refl _ | (simp; done) | (simp; omega))
        · exact (by first | omega | exact Nat.le_refl _ | (simp; done) | (simp; omega))
        · first | exact (by have hzz := (e0).size; repeat' (first | (with_reducible exact e0) | (with_reducible refine Below.alloc ?_ ?_ _) | (with_reducible refine Below.setCell ?_ ?_ _) | (with_reducible refine below_drew ?_) | omega | (simp; done) | (simp; omega))) | exact (by have hzz := (e0p).size; repeat' (first | (with_reducible exact e0p) | (with_reducible refine Below.alloc ?_ ?_ _) | (with_reducible refine Below.setCell ?_ ?_ _) | (with_reducible refine below_drew ?_) | omega | (simp; done) | (simp; omega)))
      refine Mix.wpMix_chg (by rfl) (fun K hK => ?_)
      go_wp2_with fail
      refine (toPartial_c _ _ _ _ _ _ _ (by exact ((P1.out.rd).below e0)) (by omega)).mono ?_
      rintro e u3 ⟨g056, rfl, q57, hb⟩
      have e_q53 := below_chain e_q53 e_q53.size hb
      have e0 := below_chain e0 e0.size hb
      have e_q57 : Below u3.heap.size u3 u3 := below_size
      have zu3 : u1.heap.size ≤ u3.heap.size := by first | exact hb.size | exact Nat.le_trans (Nat.le_of_eq (World.size_alloc ..).symm) hb.size
      clear hb
      go_wp2_with fail
      refine hK _ _ ⟨⟨_, e0⟩, rfl⟩ ?_
      clear hK K
      refine Mix.wpMix_nil ?_
      refine Mix.wpF_0 ?_
      (refine Mix.wpMix_pure (by rfl) ?_; go_big_quiet_step (fail); refine wpQuiet_nil ?_)
      refine Mix.wpMix_nil ?_
      refine Mix.wpF_1 ?_ ?_
      · simp only [List.cons_append, List.nil_append]
        have e0p := e0
        refine Mix.wpMix_chg (by rfl) (fun K hK => ?_)
        go_wp2_with fail
        refine hK _ _ ⟨⟨_, e0.alloc e0.size _⟩, rfl⟩ ?_
        clear hK K
        have e_q53 := e_q53.alloc e_q53.size (.cells #[.int .i64 0, .int .i64 0, .slice none 0 0] 57)
        have e_q57 := e_q57.alloc e_q57.size (.cells #[.int .i64 0, .int .i64 0, .slice none 0 0] 57)
        have bk : Blk (u3.alloc (.cells #[.int .i64 0, .int .i64 0, .slice none 0 0] 57)) u3.heap.size 57 #[.int .i64 0, .int .i64 0, .slice none 0 0] := Blk.new _ _ _
        have e0 := e0.alloc e0.size (.cells #[.int .i64 0, .int .i64 0, .slice none 0 0] 57)
        refine Mix.wpMix_chg (by rfl) (fun K hK => ?_)
        go_wp2_with fail
        refine (iForwardPartial_c _ _ _ _ _ _ _ _ _ _ _ _ _ _ (by exact (q53.below e_q53).rd) (by exact (q57.below e_q57).rd) (by omega) (by omega)).mono ?_
        rintro e ua55 ⟨A42, n43, c44, rfl, q46, l47, hb⟩
        have e_q53 := below_chain e_q53 e_q53.size hb
        have e_q57 := below_chain e_q57 e_q57.size hb
        have e0 := below_chain e0 e0.size hb
        have bk := bk.keep hb
        have e_q46 : Below ua55.heap.size ua55 ua55 := below_size
        have zua55 : u3.heap.size + 1 ≤ ua55.heap.size := by first | exact hb.size | exact Nat.le_trans (Nat.le_of_eq (World.size_alloc ..).symm) hb.size
        have q46 : WrS ua55 (u3.heap.size + 1) ua55.heap.size [sgI A42 n43 (fwR sy0 st0 xs0 st1 at1 xs1 x2).1.2.2] := by first | exact q46.wider (Nat.le_refl _) (Nat.le_refl _) | exact q46.wider (Nat.le_of_eq (World.size_alloc ..).symm) (Nat.le_refl _)
        clear hb
        go_wp2_with fail
        refine hK _ _ ⟨⟨_, e0⟩, rfl⟩ ?_
        clear hK K
        (refine Mix.wpMix_pure (by rfl) ?_; go_big_quiet_step (fail); refine wpQuiet_nil ?_)
        (refine Mix.wpMix_pure (by rfl) ?_; go_big_quiet_step (fail); refine wpQuiet_nil ?_)
        (refine Mix.wpMix_pure (by rfl) ?_; go_big_quiet_step (fail); refine wpQuiet_nil ?_)
        (refine Mix.wpMix_pure (by rfl) ?_; go_big_quiet_step (fail); refine wpQuiet_nil ?_)
        (refine Mix.wpMix_pure (by rfl) ?_; go_big_quiet_step (fail); refine wpQuiet_nil ?_)
        repeat (first | (refine Mix.wpMix_read (by rfl) ?_; go_big_quiet_step (fail); refine wpQuiet_nil ?_) | (refine Mix.wpMix_pure (by rfl) ?_; go_big_quiet_step (fail); refine wpQuiet_nil ?_))
        have d0 := bk.cell 0; have f0 := bk.frozen 0
        simp at d0
        have d1 := bk.cell 1; have f1 := bk.frozen 1
        simp at d1
        have d2 := bk.cell 2; have f2 := bk.frozen 2
        simp at d2
        refine Mix.wpMix_tail (by rfl) (fun K hK => ?_)
        go_wp2_with fail
        refine hK _ _ ?_
        clear hK K
        repeat (first | (refine Mix.wpMix_read (by rfl) ?_; go_big_quiet_step (fail); refine wpQuiet_nil ?_) | (refine Mix.wpMix_pure (by rfl) ?_; go_big_quiet_step (fail); refine wpQuiet_nil ?_))
        (refine Mix.wpMix_nil ?_; try simp only [Exit.then])
        go_wp2_with fail
        go_meet
        have bk2 := (((bk.set_ 0 (.int .i64 (fwR sy0 st0 xs0 st1 at1 xs1 x2).1.1)).set_ 1 (.int .i64 (fwR sy0 st0 xs0 st1 at1 xs1 x2).1.2.1)).set_ 2 (.slice A42 n43 c44))
        refine ⟨u3.heap.size, A42, n43, c44, rfl, rfl, rfl, rfl, (by have := bk2.cell 0; first | exact this | (simp; done) | simpa using this), (by have := bk2.cell 1; first | exact this | (simp; done) | simpa using this), (by have := bk2.cell 2; first | exact this | (simp; done) | simpa using this), ?_, l47, ?_, ?_⟩
        · first | exact (q46.alloc _).wider (by first | omega | exact Nat.le_refl _ | (simp; done) | (simp; omega)) (by first | omega | exact Nat.le_refl _ | (simp; done) | (simp; omega)) | exact (((q46.set_far (.inl (by first | omega | exact Nat.le_refl _ | (simp; done) | (simp; omega))) _).set_far (.inl (by first | omega | exact Nat.le_refl _ | (simp; done) | (simp; omega))) _).set_far (.inl (by first | omega | exact Nat.le_refl _ | (simp; done) | (simp; omega))) _).wider (by first | omega | exact Nat.le_refl _ | (simp; done) | (simp; omega)) (by first | omega | exact Nat.le_refl _ | (simp; done) | (simp; omega))
        · exact (by first | omega | exact Nat.le_refl _ | (simp; done) | (simp; omega))
        · first | exact (by have hzz := (e0).size; repeat' (first | (with_reducible exact e0) | (with_reducible refine Below.alloc ?_ ?_ _) | (with_reducible refine Below.setCell ?_ ?_ _) | (with_reducible refine below_drew ?_) | omega | (simp; done) | (simp; omega))) | exact (by have hzz := (e0p).size; repeat' (first | (with_reducible exact e0p) | (with_reducible refine Below.alloc ?_ ?_ _) | (with_reducible refine Below.setCell ?_ ?_ _) | (with_reducible refine below_drew ?_) | omega | (simp; done) | (simp; omega)))
      refine Mix.wpMix_chg (by rfl) (fun K hK => ?_)
      go_wp2_with fail
      refine (iForwardPartial_c _ _ _ _ _ _ _ _ _ _ _ _ _ _ (by exact (q53.below e_q53).rd) (by exact (q57.below e_q57).rd) (by omega) (by omega)).mono ?_
      rintro e u5 ⟨A42, n43, c44, rfl, q46, l47, hb⟩
      have e_q53 := below_chain e_q53 e_q53.size hb
      have e_q57 := below_chain e_q57 e_q57.size hb
      have e0 := below_chain e0 e0.size hb
      have e_q46 : Below u5.heap.size u5 u5 := below_size
      have zu5 : u3.heap.size ≤ u5.heap.size := by first | exact hb.size | exact Nat.le_trans (Nat.le_of_eq (World.size_alloc ..).symm) hb.size
      have q46 : WrS u5 (u3.heap.size) u5.heap.size [sgI A42 n43 (fwR sy0 st0 xs0 st1 at1 xs1 x2).1.2.2] := by first | exact q46.wider (Nat.le_refl _) (Nat.le_refl _) | exact q46.wider (Nat.le_of_eq (World.size_alloc ..).symm) (Nat.le_refl _)
      clear hb
      go_wp2_with fail
      refine hK _ _ ⟨⟨_, e0⟩, rfl⟩ ?_
      clear hK K
      refine Mix.wpMix_nil ?_
      refine Mix.wpF_0 ?_
      (refine Mix.wpMix_pure (by rfl) ?_; go_big_quiet_step (fail); refine wpQuiet_nil ?_)
      refine Mix.wpMix_nil ?_
      refine Mix.wpF_0 ?_
      (refine Mix.wpMix_pure (by rfl) ?_; go_big_quiet_step (fail); refine wpQuiet_nil ?_)
      refine Mix.wpMix_nil ?_
      refine Mix.wpF_0 ?_
      (refine Mix.wpMix_pure (by rfl) ?_; go_big_quiet_step (fail); refine wpQuiet_nil ?_)
      refine Mix.wpMix_nil ?_
      refine Mix.wpF_0 ?_
      (refine Mix.wpMix_pure (by rfl) ?_; go_big_quiet_step (fail); refine wpQuiet_nil ?_)
      refine Mix.wpMix_nil ?_
      refine Mix.wpF_0 ?_
      (refine Mix.wpMix_pure (by rfl) ?_; go_big_quiet_step (fail); refine wpQuiet_nil ?_)
      refine Mix.wpMix_nil ?_
      refine Mix.wpF_nil ?_
      have e0p := e0
      refine Mix.wpMix_chg (by rfl) (fun K hK => ?_)
      go_wp2_with fail
      refine hK _ _ ⟨⟨_, e0.alloc e0.size _⟩, rfl⟩ ?_
      clear hK K
      have e_q53 := e_q53.alloc e_q53.size (.cells #[.int .i64 0, .int .i64 0, .slice none 0 0] 57)
      have e_q57 := e_q57.alloc e_q57.size (.cells #[.int .i64 0, .int .i64 0, .slice none 0 0] 57)
      have e_q46 := e_q46.alloc e_q46.size (.cells #[.int .i64 0, .int .i64 0, .slice none 0 0] 57)
      have bk : Blk (u5.alloc (.cells #[.int .i64 0, .int .i64 0, .slice none 0 0] 57)) u5.heap.size 57 #[.int .i64 0, .int .i64 0, .slice none 0 0] := Blk.new _ _ _
      have e0 := e0.alloc e0.size (.cells #[.int .i64 0, .int .i64 0, .slice none 0 0] 57)
      repeat (first | (refine Mix.wpMix_read (by rfl) ?_; go_big_quiet_step (fail); refine wpQuiet_nil ?_) | (refine Mix.wpMix_pure (by rfl) ?_; go_big_quiet_step (fail); refine wpQuiet_nil ?_))
      have d0 := bk.cell 0; have f0 := bk.frozen 0
      simp at d0
      have d1 := bk.cell 1; have f1 := bk.frozen 1
      simp at d1
      have d2 := bk.cell 2; have f2 := bk.frozen 2
      simp at d2
      refine Mix.wpMix_tail (by rfl) (fun K hK => ?_)
      go_wp2_with fail
      refine hK _ _ ?_
      clear hK K
      repeat (first | (refine Mix.wpMix_read (by rfl) ?_; go_big_quiet_step (fail); refine wpQuiet_nil ?_) | (refine Mix.wpMix_pure (by rfl) ?_; go_big_quiet_step (fail); refine wpQuiet_nil ?_))
      (refine Mix.wpMix_nil ?_; try simp only [Exit.then])
      go_wp2_with fail
      go_meet
      have bk2 := (((bk.set_ 0 (.int .i64 (fwR sy0 st0 xs0 st1 at1 xs1 x2).1.1)).set_ 1 (.int .i64 (fwR sy0 st0 xs0 st1 at1 xs1 x2).1.2.1)).set_ 2 (.slice A42 n43 c44))
      refine ⟨u5.heap.size, A42, n43, c44, rfl, rfl, rfl, rfl, (by have := bk2.cell 0; first | exact this | (simp; done) | simpa using this), (by have := bk2.cell 1; first | exact this | (simp; done) | simpa using this), (by have := bk2.cell 2; first | exact this | (simp; done) | simpa using this), ?_, l47, ?_, ?_⟩
      · first | exact (q46.alloc _).wider (by first | omega | exact Nat.le_refl _ | (simp; done) | (simp; omega)) (by first | omega | exact Nat.le_refl _ | (simp; done) | (simp; omega)) | exact (((q46.set_far (.inl (by first | omega | exact Nat.le_refl _ | (simp; done) | (simp; omega))) _).set_far (.inl (by first | omega | exact Nat.le_refl _ | (simp; done) | (simp; omega))) _).set_far (.inl (by first | omega | exact Nat.le_refl _ | (simp; done) | (simp; omega))) _).wider (by first | omega | exact Nat.le_refl _ | (simp; done) | (simp; omega)) (by first | omega | exact Nat.le_refl _ | (simp; done) | (simp; omega))
      · exact (by first | omega | exact Nat.le_refl _ | (simp; done) | (simp; omega))
      · first | exact (by have hzz := (e0).size; repeat' (first | (with_reducible exact e0) | (with_reducible refine Below.alloc ?_ ?_ _) | (with_reducible refine Below.setCell ?_ ?_ _) | (with_reducible refine below_drew ?_) | omega | (simp; done) | (simp; omega))) | exact (by have hzz := (e0p).size; repeat' (first | (with_reducible exact e0p) | (with_reducible refine Below.alloc ?_ ?_ _) | (with_reducible refine Below.setCell ?_ ?_ _) | (with_reducible refine below_drew ?_) | omega | (simp; done) | (simp; omega)))
    case rest =>
      obtain ⟨g45, A42, n43, c44, rfl, rfl, rfl, rfl, nc0, nc1, nc2, q46, l47, hgg45, hb'⟩ := hcut
      obtain ⟨w17, rfl⟩ : ∃ w17 : World, w17 = wc := ⟨_, rfl⟩
      have z17 := hb'.size
      have hlg45 : g45 < w17.heap.size := World.block_lt_of_cell? w17 _ nc0
      have c17_a0_0 : w17.cell? ⟨w.heap.size, 0, none⟩ = some (.int .i64 sy0) := keepc hb' c16_a0_0
      clear c16_a0_0 ac16_a0_0
      have c17_a0_1 : w17.cell? ⟨w.heap.size, 1, none⟩ = some (.int .i64 st0) := keepc hb' c16_a0_1
      clear c16_a0_1 ac16_a0_1
      have c17_a0_2 : w17.cell? ⟨w.heap.size, 2, none⟩ = some (.slice A0 n0 c0) := keepc hb' c16_a0_2
      clear c16_a0_2 ac16_a0_2
      have c17_a1_0 : w17.cell? ⟨(w.heap.size + 1), 0, none⟩ = some (.int .i64 st1) := keepc hb' c16_a1_0
      clear c16_a1_0 ac16_a1_0
      have c17_a1_1 : w17.cell? ⟨(w.heap.size + 1), 1, none⟩ = some (.int .i64 at1) := keepc hb' c16_a1_1
      clear c16_a1_1 ac16_a1_1
      have c17_a1_2 : w17.cell? ⟨(w.heap.size + 1), 2, none⟩ = some (.slice A1 n1 c1) := keepc hb' c16_a1_2
      clear c16_a1_2 ac16_a1_2
      have c17_o27_0 : w17.cell? ⟨g14, 0, none⟩ = some (.int .i64 (fwR sy0 st0 xs0 st1 at1 xs1 x2).1.1) := keepc hb' c16_o27_0
      clear c16_o27_0 ac16_o27_0
      have c17_o27_1 : w17.cell? ⟨g14, 1, none⟩ = some (.int .i64 (fwR sy0 st0 xs0 st1 at1 xs1 x2).1.2.1) := keepc hb' c16_o27_1
      clear c16_o27_1 ac16_o27_1
      have c17_o27_2 : w17.cell? ⟨g14, 2, none⟩ = some (.slice A11 n12 c13) := keepc hb' c16_o27_2
      clear c16_o27_2 ac16_o27_2
      have c17_o29_0 : w17.cell? ⟨w4.heap.size, 0, none⟩ = some (.int .i64 sy0) := keepc hb' c16_o29_0
      clear c16_o29_0 ac16_o29_0
      have c17_o29_1 : w17.cell? ⟨w4.heap.size, 1, none⟩ = some (.int .i64 st0) := keepc hb' c16_o29_1
      clear c16_o29_1 ac16_o29_1
      have c17_o29_2 : w17.cell? ⟨w4.heap.size, 2, none⟩ = some (.slice (some ⟨g028, 0, none⟩) n0 n0) := keepc hb' c16_o29_2
      clear c16_o29_2 ac16_o29_2
      have c17_o31_0 : w17.cell? ⟨w5.heap.size, 0, none⟩ = some (.int .i64 st1) := keepc hb' c16_o31_0
      clear c16_o31_0 ac16_o31_0
      have c17_o31_1 : w17.cell? ⟨w5.heap.size, 1, none⟩ = some (.int .i64 at1) := keepc hb' c16_o31_1
      clear c16_o31_1 ac16_o31_1
      have c17_o31_2 : w17.cell? ⟨w5.heap.size, 2, none⟩ = some (.slice (some ⟨g030, 0, none⟩) n1 n1) := keepc hb' c16_o31_2
      clear c16_o31_2 ac16_o31_2
      have c17_o37_0 : w17.cell? ⟨w6.heap.size, 0, none⟩ = some (.int .i64 (fwR sy0 st0 xs0 st1 at1 xs1 x2).1.1) := keepc hb' c16_o37_0
      clear c16_o37_0 ac16_o37_0
      have c17_o37_1 : w17.cell? ⟨w6.heap.size, 1, none⟩ = some (.int .i64 (fwR sy0 st0 xs0 st1 at1 xs1 x2).1.2.1) := keepc hb' c16_o37_1
      clear c16_o37_1 ac16_o37_1
      have c17_o37_2 : w17.cell? ⟨w6.heap.size, 2, none⟩ = some (.slice A32 n33 c34) := keepc hb' c16_o37_2
      clear c16_o37_2 ac16_o37_2
      have c17_o58_0 := nc0; clear nc0
      have c17_o58_1 := nc1; clear nc1
      have c17_o58_2 := nc2; clear nc2
      have ac17_a0_0 := fun o => keepa o c17_a0_0
      have ac17_a0_1 := fun o => keepa o c17_a0_1
      have ac17_a0_2 := fun o => keepa o c17_a0_2
      have ac17_a1_0 := fun o => keepa o c17_a1_0
      have ac17_a1_1 := fun o => keepa o c17_a1_1
      have ac17_a1_2 := fun o => keepa o c17_a1_2
      have ac17_o27_0 := fun o => keepa o c17_o27_0
      have ac17_o27_1 := fun o => keepa o c17_o27_1
      have ac17_o27_2 := fun o => keepa o c17_o27_2
      have ac17_o29_0 := fun o => keepa o c17_o29_0
      have ac17_o29_1 := fun o => keepa o c17_o29_1
      have ac17_o29_2 := fun o => keepa o c17_o29_2
      have ac17_o31_0 := fun o => keepa o c17_o31_0
      have ac17_o31_1 := fun o => keepa o c17_o31_1
      have ac17_o31_2 := fun o => keepa o c17_o31_2
      have ac17_o37_0 := fun o => keepa o c17_o37_0
      have ac17_o37_1 := fun o => keepa o c17_o37_1
      have ac17_o37_2 := fun o => keepa o c17_o37_2
      have ac17_o58_0 := fun o => keepa o c17_o58_0
      have ac17_o58_1 := fun o => keepa o c17_o58_1
      have ac17_o58_2 := fun o => keepa o c17_o58_2
      have rP0 := P0.out.below hb'; clear P0; have P0 := Lib.hid rP0; clear rP0
      have rP1 := P1.out.below hb'; clear P1; have P1 := Lib.hid rP1; clear rP1
      have rFo27 := Fo27.out.below hb'; clear Fo27; have Fo27 := Lib.hid rFo27; clear rFo27
      have rFo29 := Fo29.out.below hb'; clear Fo29; have Fo29 := Lib.hid rFo29; clear rFo29
      have rFo31 := Fo31.out.below hb'; clear Fo31; have Fo31 := Lib.hid rFo31; clear rFo31
      have rFo37 := Fo37.out.below hb'; clear Fo37; have Fo37 := Lib.hid rFo37; clear rFo37
      have rB := below_chain B.out (by omega) hb'; clear B; have B := Lib.hid rB; clear rB hb'
      have Fo58 := Lib.hid q46; clear q46
      go_wp2_with fail
      refine (eqPartial_t _ _ _ _ _ _ _ _ _ _ (by exact (Fo58.out.rd)) (by exact (Fo27.out.rd)) (by omega)).mono ?_
      rintro e w18 ⟨rfl, hb⟩
      have hb' : Below w17.heap.size w17 w18 := (by first | (with_reducible exact hb) | (with_reducible exact up1 hb) | (with_reducible exact up2 hb) | (with_reducible exact up3 hb) | (with_reducible exact up4 hb) | (with_reducible exact below_of_drew hb) | (with_reducible exact below_of_drew (up1 hb)))
      have z18 := hb'.size
      have c18_a0_0 : w18.cell? ⟨w.heap.size, 0, none⟩ = some (.int .i64 sy0) := keepc hb' c17_a0_0
      clear c17_a0_0 ac17_a0_0
      have c18_a0_1 : w18.cell? ⟨w.heap.size, 1, none⟩ = some (.int .i64 st0) := keepc hb' c17_a0_1
      clear c17_a0_1 ac17_a0_1
      have c18_a0_2 : w18.cell? ⟨w.heap.size, 2, none⟩ = some (.slice A0 n0 c0) := keepc hb' c17_a0_2
      clear c17_a0_2 ac17_a0_2
      have c18_a1_0 : w18.cell? ⟨(w.heap.size + 1), 0, none⟩ = some (.int .i64 st1) := keepc hb' c17_a1_0
      clear c17_a1_0 ac17_a1_0
      have c18_a1_1 : w18.cell? ⟨(w.heap.size + 1), 1, none⟩ = some (.int .i64 at1) := keepc hb' c17_a1_1
      clear c17_a1_1 ac17_a1_1
      have c18_a1_2 : w18.cell? ⟨(w.heap.size + 1), 2, none⟩ = some (.slice A1 n1 c1) := keepc hb' c17_a1_2
      clear c17_a1_2 ac17_a1_2
      have c18_o27_0 : w18.cell? ⟨g14, 0, none⟩ = some (.int .i64 (fwR sy0 st0 xs0 st1 at1 xs1 x2).1.1) := keepc hb' c17_o27_0
      clear c17_o27_0 ac17_o27_0
      have c18_o27_1 : w18.cell? ⟨g14, 1, none⟩ = some (.int .i64 (fwR sy0 st0 xs0 st1 at1 xs1 x2).1.2.1) := keepc hb' c17_o27_1
      clear c17_o27_1 ac17_o27_1
      have c18_o27_2 : w18.cell? ⟨g14, 2, none⟩ = some (.slice A11 n12 c13) := keepc hb' c17_o27_2
      clear c17_o27_2 ac17_o27_2
      have c18_o29_0 : w18.cell? ⟨w4.heap.size, 0, none⟩ = some (.int .i64 sy0) := keepc hb' c17_o29_0
      clear c17_o29_0 ac17_o29_0
      have c18_o29_1 : w18.cell? ⟨w4.heap.size, 1, none⟩ = some (.int .i64 st0) := keepc hb' c17_o29_1
      clear c17_o29_1 ac17_o29_1
      have c18_o29_2 : w18.cell? ⟨w4.heap.size, 2, none⟩ = some (.slice (some ⟨g028, 0, none⟩) n0 n0) := keepc hb' c17_o29_2
      clear c17_o29_2 ac17_o29_2
      have c18_o31_0 : w18.cell? ⟨w5.heap.size, 0, none⟩ = some (.int .i64 st1) := keepc hb' c17_o31_0
      clear c17_o31_0 ac17_o31_0
      have c18_o31_1 : w18.cell? ⟨w5.heap.size, 1, none⟩ = some (.int .i64 at1) := keepc hb' c17_o31_1
      clear c17_o31_1 ac17_o31_1
      have c18_o31_2 : w18.cell? ⟨w5.heap.size, 2, none⟩ = some (.slice (some ⟨g030, 0, none⟩) n1 n1) := keepc hb' c17_o31_2
      clear c17_o31_2 ac17_o31_2
      have c18_o37_0 : w18.cell? ⟨w6.heap.size, 0, none⟩ = some (.int .i64 (fwR sy0 st0 xs0 st1 at1 xs1 x2).1.1) := keepc hb' c17_o37_0
      clear c17_o37_0 ac17_o37_0
      have c18_o37_1 : w18.cell? ⟨w6.heap.size, 1, none⟩ = some (.int .i64 (fwR sy0 st0 xs0 st1 at1 xs1 x2).1.2.1) := keepc hb' c17_o37_1
      clear c17_o37_1 ac17_o37_1
      have c18_o37_2 : w18.cell? ⟨w6.heap.size, 2, none⟩ = some (.slice A32 n33 c34) := keepc hb' c17_o37_2
      clear c17_o37_2 ac17_o37_2
      have c18_o58_0 : w18.cell? ⟨g45, 0, none⟩ = some (.int .i64 (fwR sy0 st0 xs0 st1 at1 xs1 x2).1.1) := keepc hb' c17_o58_0
      clear c17_o58_0 ac17_o58_0
      have c18_o58_1 : w18.cell? ⟨g45, 1, none⟩ = some (.int .i64 (fwR sy0 st0 xs0 st1 at1 xs1 x2).1.2.1) := keepc hb' c17_o58_1
      clear c17_o58_1 ac17_o58_1
      have c18_o58_2 : w18.cell? ⟨g45, 2, none⟩ = some (.slice A42 n43 c44) := keepc hb' c17_o58_2
      clear c17_o58_2 ac17_o58_2
      have ac18_a0_0 := fun o => keepa o c18_a0_0
      have ac18_a0_1 := fun o => keepa o c18_a0_1
      have ac18_a0_2 := fun o => keepa o c18_a0_2
      have ac18_a1_0 := fun o => keepa o c18_a1_0
      have ac18_a1_1 := fun o => keepa o c18_a1_1
      have ac18_a1_2 := fun o => keepa o c18_a1_2
      have ac18_o27_0 := fun o => keepa o c18_o27_0
      have ac18_o27_1 := fun o => keepa o c18_o27_1
      have ac18_o27_2 := fun o => keepa o c18_o27_2
      have ac18_o29_0 := fun o => keepa o c18_o29_0
      have ac18_o29_1 := fun o => keepa o c18_o29_1
      have ac18_o29_2 := fun o => keepa o c18_o29_2
      have ac18_o31_0 := fun o => keepa o c18_o31_0
      have ac18_o31_1 := fun o => keepa o c18_o31_1
      have ac18_o31_2 := fun o => keepa o c18_o31_2
      have ac18_o37_0 := fun o => keepa o c18_o37_0
      have ac18_o37_1 := fun o => keepa o c18_o37_1
      have ac18_o37_2 := fun o => keepa o c18_o37_2
      have ac18_o58_0 := fun o => keepa o c18_o58_0
      have ac18_o58_1 := fun o => keepa o c18_o58_1
      have ac18_o58_2 := fun o => keepa o c18_o58_2
      have rP0 := P0.out.below hb'; clear P0; have P0 := Lib.hid rP0; clear rP0
      have rP1 := P1.out.below hb'; clear P1; have P1 := Lib.hid rP1; clear rP1
      have rFo27 := Fo27.out.below hb'; clear Fo27; have Fo27 := Lib.hid rFo27; clear rFo27
      have rFo29 := Fo29.out.below hb'; clear Fo29; have Fo29 := Lib.hid rFo29; clear rFo29
      have rFo31 := Fo31.out.below hb'; clear Fo31; have Fo31 := Lib.hid rFo31; clear rFo31
      have rFo37 := Fo37.out.below hb'; clear Fo37; have Fo37 := Lib.hid rFo37; clear rFo37
      have rFo58 := Fo58.out.below hb'; clear Fo58; have Fo58 := Lib.hid rFo58; clear rFo58
      have rB := below_chain B.out (by omega) hb'; clear B; have B := Lib.hid rB; clear rB
      clear hb hb'
      go_wp2_with fail
      refine (heldPartial_c _ _ _ _ _ _ _ _ (by exact (Fo37.out.rd)) (by omega) (by omega) (by omega)).mono ?_
      rintro e w19 ⟨rfl, hb⟩
      have hb' : Below w18.heap.size w18 w19 := (by first | (with_reducible exact hb) | (with_reducible exact up1 hb) | (with_reducible exact up2 hb) | (with_reducible exact up3 hb) | (with_reducible exact up4 hb) | (with_reducible exact below_of_drew hb) | (with_reducible exact below_of_drew (up1 hb)))
      have z19 := hb'.size
      have c19_a0_0 : w19.cell? ⟨w.heap.size, 0, none⟩ = some (.int .i64 sy0) := keepc hb' c18_a0_0
      clear c18_a0_0 ac18_a0_0
      have c19_a0_1 : w19.cell? ⟨w.heap.size, 1, none⟩ = some (.int .i64 st0) := keepc hb' c18_a0_1
      clear c18_a0_1 ac18_a0_1
      have c19_a0_2 : w19.cell? ⟨w.heap.size, 2, none⟩ = some (.slice A0 n0 c0) := keepc hb' c18_a0_2
      clear c18_a0_2 ac18_a0_2
      have c19_a1_0 : w19.cell? ⟨(w.heap.size + 1), 0, none⟩ = some (.int .i64 st1) := keepc hb' c18_a1_0
      clear c18_a1_0 ac18_a1_0
      have c19_a1_1 : w19.cell? ⟨(w.heap.size + 1), 1, none⟩ = some (.int .i64 at1) := keepc hb' c18_a1_1
      clear c18_a1_1 ac18_a1_1
      have c19_a1_2 : w19.cell? ⟨(w.heap.size + 1), 2, none⟩ = some (.slice A1 n1 c1) := keepc hb' c18_a1_2
      clear c18_a1_2 ac18_a1_2
      have c19_o27_0 : w19.cell? ⟨g14, 0, none⟩ = some (.int .i64 (fwR sy0 st0 xs0 st1 at1 xs1 x2).1.1) := keepc hb' c18_o27_0
      clear c18_o27_0 ac18_o27_0
      have c19_o27_1 : w19.cell? ⟨g14, 1, none⟩ = some (.int .i64 (fwR sy0 st0 xs0 st1 at1 xs1 x2).1.2.1) := keepc hb' c18_o27_1
      clear c18_o27_1 ac18_o27_1
      have c19_o27_2 : w19.cell? ⟨g14, 2, none⟩ = some (.slice A11 n12 c13) := keepc hb' c18_o27_2
      clear c18_o27_2 ac18_o27_2
      have c19_o29_0 : w19.cell? ⟨w4.heap.size, 0, none⟩ = some (.int .i64 sy0) := keepc hb' c18_o29_0
      clear c18_o29_0 ac18_o29_0
      have c19_o29_1 : w19.cell? ⟨w4.heap.size, 1, none⟩ = some (.int .i64 st0) := keepc hb' c18_o29_1
      clear c18_o29_1 ac18_o29_1
      have c19_o29_2 : w19.cell? ⟨w4.heap.size, 2, none⟩ = some (.slice (some ⟨g028, 0, none⟩) n0 n0) := keepc hb' c18_o29_2
      clear c18_o29_2 ac18_o29_2
      have c19_o31_0 : w19.cell? ⟨w5.heap.size, 0, none⟩ = some (.int .i64 st1) := keepc hb' c18_o31_0
      clear c18_o31_0 ac18_o31_0
      have c19_o31_1 : w19.cell? ⟨w5.heap.size, 1, none⟩ = some (.int .i64 at1) := keepc hb' c18_o31_1
      clear c18_o31_1 ac18_o31_1
      have c19_o31_2 : w19.cell? ⟨w5.heap.size, 2, none⟩ = some (.slice (some ⟨g030, 0, none⟩) n1 n1) := keepc hb' c18_o31_2
      clear c18_o31_2 ac18_o31_2
      have c19_o37_0 : w19.cell? ⟨w6.heap.size, 0, none⟩ = some (.int .i64 (fwR sy0 st0 xs0 st1 at1 xs1 x2).1.1) := keepc hb' c18_o37_0
      clear c18_o37_0 ac18_o37_0
      have c19_o37_1 : w19.cell? ⟨w6.heap.size, 1, none⟩ = some (.int .i64 (fwR sy0 st0 xs0 st1 at1 xs1 x2).1.2.1) := keepc hb' c18_o37_1
      clear c18_o37_1 ac18_o37_1
      have c19_o37_2 : w19.cell? ⟨w6.heap.size, 2, none⟩ = some (.slice A32 n33 c34) := keepc hb' c18_o37_2
      clear c18_o37_2 ac18_o37_2
      have c19_o58_0 : w19.cell? ⟨g45, 0, none⟩ = some (.int .i64 (fwR sy0 st0 xs0 st1 at1 xs1 x2).1.1) := keepc hb' c18_o58_0
      clear c18_o58_0 ac18_o58_0
      have c19_o58_1 : w19.cell? ⟨g45, 1, none⟩ = some (.int .i64 (fwR sy0 st0 xs0 st1 at1 xs1 x2).1.2.1) := keepc hb' c18_o58_1
      clear c18_o58_1 ac18_o58_1
      have c19_o58_2 : w19.cell? ⟨g45, 2, none⟩ = some (.slice A42 n43 c44) := keepc hb' c18_o58_2
      clear c18_o58_2 ac18_o58_2
      have ac19_a0_0 := fun o => keepa o c19_a0_0
      have ac19_a0_1 := fun o => keepa o c19_a0_1
      have ac19_a0_2 := fun o => keepa o c19_a0_2
      have ac19_a1_0 := fun o => keepa o c19_a1_0
      have ac19_a1_1 := fun o => keepa o c19_a1_1
      have ac19_a1_2 := fun o => keepa o c19_a1_2
      have ac19_o27_0 := fun o => keepa o c19_o27_0
      have ac19_o27_1 := fun o => keepa o c19_o27_1
      have ac19_o27_2 := fun o => keepa o c19_o27_2
      have ac19_o29_0 := fun o => keepa o c19_o29_0
      have ac19_o29_1 := fun o => keepa o c19_o29_1
      have ac19_o29_2 := fun o => keepa o c19_o29_2
      have ac19_o31_0 := fun o => keepa o c19_o31_0
      have ac19_o31_1 := fun o => keepa o c19_o31_1
      have ac19_o31_2 := fun o => keepa o c19_o31_2
      have ac19_o37_0 := fun o => keepa o c19_o37_0
      have ac19_o37_1 := fun o => keepa o c19_o37_1
      have ac19_o37_2 := fun o => keepa o c19_o37_2
      have ac19_o58_0 := fun o => keepa o c19_o58_0
      have ac19_o58_1 := fun o => keepa o c19_o58_1
      have ac19_o58_2 := fun o => keepa o c19_o58_2
      have rP0 := P0.out.below hb'; clear P0; have P0 := Lib.hid rP0; clear rP0
      have rP1 := P1.out.below hb'; clear P1; have P1 := Lib.hid rP1; clear rP1
      have rFo27 := Fo27.out.below hb'; clear Fo27; have Fo27 := Lib.hid rFo27; clear rFo27
      have rFo29 := Fo29.out.below hb'; clear Fo29; have Fo29 := Lib.hid rFo29; clear rFo29
      have rFo31 := Fo31.out.below hb'; clear Fo31; have Fo31 := Lib.hid rFo31; clear rFo31
      have rFo37 := Fo37.out.below hb'; clear Fo37; have Fo37 := Lib.hid rFo37; clear rFo37
      have rFo58 := Fo58.out.below hb'; clear Fo58; have Fo58 := Lib.hid rFo58; clear rFo58
      have rB := below_chain B.out (by omega) hb'; clear B; have B := Lib.hid rB; clear rB
      clear hb hb'
      go_wp2
      go_ret
      exact ⟨rfl, B.out⟩
end Go.Proofs.Ytdnicjeadpefnaa
