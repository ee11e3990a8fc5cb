/-
  FnExactDfaText returns true for every input: its walk, out of the contracts.
-/
import Derived.Test.YtfbmjlohdhogmaaDoorLawDfa
import Derived.Test.YtfbmjlohdhogmaaDoorCTi
import Derived.Test.YtfbmjlohdhogmaaDoorOpen
namespace Go.Proofs.YtfbmjlohdhogmaaDoor
open Go.RowKit

set_option maxHeartbeats 4000000 in
set_option maxRecDepth 100000 in
theorem walkDfaText (st0 : Int) (A0 : Option Addr) (n0 : Nat) (c0 : Nat) (xs0 : List Int) (x1 : Int) (w : World) (h0 : RdI w A0 n0 xs0) (hb0 : n0 ≤ 9223372036854775807) (_o0 : i64ok st0) (_oo0 : ∀ x ∈ xs0, i64ok x) (_o1 : i64ok x1) (hT : Tab w) :
    Calls Tryd.prog 3 #[.agg #[.int .i64 st0, .slice A0 n0 c0], .int .i64 x1] w fun e w' => e = .returned (.bool true) ∧ Below w.heap.size w w' := by
  have P0 := Lib.hid (RdU.mk' h0); clear h0
  have HTB := Lib.hid hT; clear hT
  go_enter Tryd.func3, Tryd.ntmps3
  go_wp2_with fail
  refine (szDfa_c _ _ _ _ _ _ hb0 (by omega) (by omega)).mono ?_
  rintro e w1 ⟨rfl, hb⟩
  have hb' : Below w.heap.size w w1 := (by first | (with_reducible exact hb) | (with_reducible exact up1 hb) | (with_reducible exact up2 hb) | (with_reducible exact up3 hb) | (with_reducible exact up4 hb) | (with_reducible exact below_of_drew hb) | (with_reducible exact below_of_drew (up1 hb)))
  have z1 := hb'.size
  have c1_a0_0 : w1.cell? ⟨w.heap.size, 0, none⟩ = some (.int .i64 st0) := keepc hb (by first | (simp; done) | (rw [World.cell?_alloc_past _ _ _ (by simp <;> omega)]; simp; done) | (rw [World.cell?_alloc_past _ _ _ (by simp <;> omega), World.cell?_alloc_past _ _ _ (by simp <;> omega)]; simp; done) | (rw [World.cell?_alloc_past _ _ _ (by simp <;> omega), World.cell?_alloc_past _ _ _ (by simp <;> omega), World.cell?_alloc_past _ _ _ (by simp <;> omega)]; simp; done) | (rw [World.cell?_alloc_at _ _ _ _ (by simp)]; simp; done) | (rw [World.cell?_alloc_past _ _ _ (by simp <;> omega), World.cell?_alloc_at _ _ _ _ (by simp)]; simp; done) | (rw [World.cell?_alloc_past _ _ _ (by simp <;> omega), World.cell?_alloc_past _ _ _ (by simp <;> omega), World.cell?_alloc_at _ _ _ _ (by simp)]; simp; done) | (rw [World.cell?_alloc_past _ _ _ (by simp <;> omega), World.cell?_alloc_past _ _ _ (by simp <;> omega), World.cell?_alloc_past _ _ _ (by simp <;> omega), World.cell?_alloc_at _ _ _ _ (by simp)]; simp; done))
  have hl_c1_a0_0 : w.heap.size < w1.heap.size := World.block_lt_of_cell? w1 _ c1_a0_0
  have c1_a0_1 : w1.cell? ⟨w.heap.size, 1, none⟩ = some (.slice A0 n0 c0) := keepc hb (by first | (simp; done) | (rw [World.cell?_alloc_past _ _ _ (by simp <;> omega)]; simp; done) | (rw [World.cell?_alloc_past _ _ _ (by simp <;> omega), World.cell?_alloc_past _ _ _ (by simp <;> omega)]; simp; done) | (rw [World.cell?_alloc_past _ _ _ (by simp <;> omega), World.cell?_alloc_past _ _ _ (by simp <;> omega), World.cell?_alloc_past _ _ _ (by simp <;> omega)]; simp; done) | (rw [World.cell?_alloc_at _ _ _ _ (by simp)]; simp; done) | (rw [World.cell?_alloc_past _ _ _ (by simp <;> omega), World.cell?_alloc_at _ _ _ _ (by simp)]; simp; done) | (rw [World.cell?_alloc_past _ _ _ (by simp <;> omega), World.cell?_alloc_past _ _ _ (by simp <;> omega), World.cell?_alloc_at _ _ _ _ (by simp)]; simp; done) | (rw [World.cell?_alloc_past _ _ _ (by simp <;> omega), World.cell?_alloc_past _ _ _ (by simp <;> omega), World.cell?_alloc_past _ _ _ (by simp <;> omega), World.cell?_alloc_at _ _ _ _ (by simp)]; simp; done))
  have ac1_a0_0 := fun o => keepa o c1_a0_0
  have ac1_a0_1 := fun o => keepa o c1_a0_1
  have rP0 := P0.out.below hb'; clear P0; have P0 := Lib.hid rP0; clear rP0
  have rB := hb'; have B := Lib.hid rB; clear rB
  clear hb hb'
  by_cases hs1 : 1048576 < n0
  · rw [szOf_neg' (by omega)]
    go_wp2
    go_ret
    exact ⟨rfl, B.out⟩
  rw [szOf_pos' (by omega)]
  have hs1' : (0 : Int) ≤ 1048576 - (n0 : Nat) := by omega
  go_wp2_with fail
  refine (toDfa_c _ _ _ _ _ _ (by exact (P0.out.1)) (by omega)).mono ?_
  rintro e w2 ⟨g11, rfl, q2, hb⟩
  have hb' : Below w1.heap.size w1 w2 := (by first | (with_reducible exact hb) | (with_reducible exact up1 hb) | (with_reducible exact up2 hb) | (with_reducible exact up3 hb) | (with_reducible exact up4 hb) | (with_reducible exact below_of_drew hb) | (with_reducible exact below_of_drew (up1 hb)))
  have z2 := hb'.size
  have c2_a0_0 : w2.cell? ⟨w.heap.size, 0, none⟩ = some (.int .i64 st0) := keepc hb' c1_a0_0
  clear c1_a0_0 ac1_a0_0
  have c2_a0_1 : w2.cell? ⟨w.heap.size, 1, none⟩ = some (.slice A0 n0 c0) := keepc hb' c1_a0_1
  clear c1_a0_1 ac1_a0_1
  have ac2_a0_0 := fun o => keepa o c2_a0_0
  have ac2_a0_1 := fun o => keepa o c2_a0_1
  have rP0 := P0.out.below hb'; clear P0; have P0 := Lib.hid rP0; clear rP0
  have rB := below_chain B.out (by omega) hb'; clear B; have B := Lib.hid rB; clear rB
  have Fo12 := Lib.hid q2; clear q2
  clear hb hb'
  go_wp2_with fail
  refine (sDfaText_c _ _ _ _ _ _ _ (by exact (Fo12.out.rdI)) (by omega)).mono ?_
  rintro e w3 ⟨rfl, hb⟩
  have hb' : Below w2.heap.size w2 w3 := (by first | (with_reducible exact hb) | (with_reducible exact up1 hb) | (with_reducible exact up2 hb) | (with_reducible exact up3 hb) | (with_reducible exact up4 hb) | (with_reducible exact below_of_drew hb) | (with_reducible exact below_of_drew (up1 hb)))
  have z3 := hb'.size
  have c3_a0_0 : w3.cell? ⟨w.heap.size, 0, none⟩ = some (.int .i64 st0) := keepc hb' c2_a0_0
  clear c2_a0_0 ac2_a0_0
  have c3_a0_1 : w3.cell? ⟨w.heap.size, 1, none⟩ = some (.slice A0 n0 c0) := keepc hb' c2_a0_1
  clear c2_a0_1 ac2_a0_1
  have ac3_a0_0 := fun o => keepa o c3_a0_0
  have ac3_a0_1 := fun o => keepa o c3_a0_1
  have rP0 := P0.out.below hb'; clear P0; have P0 := Lib.hid rP0; clear rP0
  have rFo12 := Fo12.out.below hb'; clear Fo12; have Fo12 := Lib.hid rFo12; clear rFo12
  have rB := below_chain B.out (by omega) hb'; clear B; have B := Lib.hid rB; clear rB
  clear hb hb'
  go_wp2_with fail
  refine (toDfa_c _ _ _ _ _ _ (by exact (P0.out.1)) (by omega)).mono ?_
  rintro e w4 ⟨g13, rfl, q4, hb⟩
  have hb' : Below w3.heap.size w3 w4 := (by first | (with_reducible exact hb) | (with_reducible exact up1 hb) | (with_reducible exact up2 hb) | (with_reducible exact up3 hb) | (with_reducible exact up4 hb) | (with_reducible exact below_of_drew hb) | (with_reducible exact below_of_drew (up1 hb)))
  have z4 := hb'.size
  have c4_a0_0 : w4.cell? ⟨w.heap.size, 0, none⟩ = some (.int .i64 st0) := keepc hb' c3_a0_0
  clear c3_a0_0 ac3_a0_0
  have c4_a0_1 : w4.cell? ⟨w.heap.size, 1, none⟩ = some (.slice A0 n0 c0) := keepc hb' c3_a0_1
  clear c3_a0_1 ac3_a0_1
  have ac4_a0_0 := fun o => keepa o c4_a0_0
  have ac4_a0_1 := fun o => keepa o c4_a0_1
  have rP0 := P0.out.below hb'; clear P0; have P0 := Lib.hid rP0; clear rP0
  have rFo12 := Fo12.out.below hb'; clear Fo12; have Fo12 := Lib.hid rFo12; clear rFo12
  have rB := below_chain B.out (by omega) hb'; clear B; have B := Lib.hid rB; clear rB
  have Fo14 := Lib.hid q4; clear q4
  clear hb hb'
  go_wp2_with fail
  refine (iDfaText_c _ _ _ _ _ _ _ (by exact ((Fo14.out.rdI).alloc _)) (by omega) (Nat.le_refl _) (by exact (((HTB.out.below B.out)).alloc _))).mono ?_
  rintro e w5 ⟨rfl, hb⟩
  have hb' : Below w4.heap.size w4 w5 := (by first | (with_reducible exact hb) | (with_reducible exact up1 hb) | (with_reducible exact up2 hb) | (with_reducible exact up3 hb) | (with_reducible exact up4 hb) | (with_reducible exact below_of_drew hb) | (with_reducible exact below_of_drew (up1 hb)))
  have z5 := hb'.size
  have c5_a0_0 : w5.cell? ⟨w.heap.size, 0, none⟩ = some (.int .i64 st0) := keepc hb' c4_a0_0
  clear c4_a0_0 ac4_a0_0
  have c5_a0_1 : w5.cell? ⟨w.heap.size, 1, none⟩ = some (.slice A0 n0 c0) := keepc hb' c4_a0_1
  clear c4_a0_1 ac4_a0_1
  have c5_o14_0 : w5.cell? ⟨w4.heap.size, 0, none⟩ = some (.int .i64 st0) := keepc hb (by first | (simp; done) | (rw [World.cell?_alloc_past _ _ _ (by simp <;> omega)]; simp; done) | (rw [World.cell?_alloc_past _ _ _ (by simp <;> omega), World.cell?_alloc_past _ _ _ (by simp <;> omega)]; simp; done) | (rw [World.cell?_alloc_past _ _ _ (by simp <;> omega), World.cell?_alloc_past _ _ _ (by simp <;> omega), World.cell?_alloc_past _ _ _ (by simp <;> omega)]; simp; done) | (rw [World.cell?_alloc_at _ _ _ _ (by simp)]; simp; done) | (rw [World.cell?_alloc_past _ _ _ (by simp <;> omega), World.cell?_alloc_at _ _ _ _ (by simp)]; simp; done) | (rw [World.cell?_alloc_past _ _ _ (by simp <;> omega), World.cell?_alloc_past _ _ _ (by simp <;> omega), World.cell?_alloc_at _ _ _ _ (by simp)]; simp; done) | (rw [World.cell?_alloc_past _ _ _ (by simp <;> omega), World.cell?_alloc_past _ _ _ (by simp <;> omega), World.cell?_alloc_past _ _ _ (by simp <;> omega), World.cell?_alloc_at _ _ _ _ (by simp)]; simp; done))
  have hl_c5_o14_0 : w4.heap.size < w5.heap.size := World.block_lt_of_cell? w5 _ c5_o14_0
  have c5_o14_1 : w5.cell? ⟨w4.heap.size, 1, none⟩ = some (.slice (some ⟨g13, 0, none⟩) n0 n0) := keepc hb (by first | (simp; done) | (rw [World.cell?_alloc_past _ _ _ (by simp <;> omega)]; simp; done) | (rw [World.cell?_alloc_past _ _ _ (by simp <;> omega), World.cell?_alloc_past _ _ _ (by simp <;> omega)]; simp; done) | (rw [World.cell?_alloc_past _ _ _ (by simp <;> omega), World.cell?_alloc_past _ _ _ (by simp <;> omega), World.cell?_alloc_past _ _ _ (by simp <;> omega)]; simp; done) | (rw [World.cell?_alloc_at _ _ _ _ (by simp)]; simp; done) | (rw [World.cell?_alloc_past _ _ _ (by simp <;> omega), World.cell?_alloc_at _ _ _ _ (by simp)]; simp; done) | (rw [World.cell?_alloc_past _ _ _ (by simp <;> omega), World.cell?_alloc_past _ _ _ (by simp <;> omega), World.cell?_alloc_at _ _ _ _ (by simp)]; simp; done) | (rw [World.cell?_alloc_past _ _ _ (by simp <;> omega), World.cell?_alloc_past _ _ _ (by simp <;> omega), World.cell?_alloc_past _ _ _ (by simp <;> omega), World.cell?_alloc_at _ _ _ _ (by simp)]; simp; done))
  have ac5_a0_0 := fun o => keepa o c5_a0_0
  have ac5_a0_1 := fun o => keepa o c5_a0_1
  have ac5_o14_0 := fun o => keepa o c5_o14_0
  have ac5_o14_1 := fun o => keepa o c5_o14_1
  have rP0 := P0.out.below hb'; clear P0; have P0 := Lib.hid rP0; clear rP0
  have rFo12 := Fo12.out.below hb'; clear Fo12; have Fo12 := Lib.hid rFo12; clear rFo12
  have rFo14 := Fo14.out.below hb'; clear Fo14; have Fo14 := Lib.hid rFo14; clear rFo14
  have rB := below_chain B.out (by omega) hb'; clear B; have B := Lib.hid rB; clear rB
  clear hb hb'
  go_wp2_with fail
  have fx_c5_a0_0 := Ext.cell c5_a0_0
  have fx_c5_a0_1 := Ext.cell c5_a0_1
  have fx_c5_o14_0 := Ext.cell c5_o14_0
  have fx_c5_o14_1 := Ext.cell c5_o14_1
  refine Mix.wp_region_mix [3, 3, 1, 1, 0] (fun w' => ∃ x : Ext w5, w' = x.w) (by kernel_rfl) (by kernel_rfl) (InExt.drew _) ?_
  repeat (first | (refine Mix.wpMix_read (by rfl) ?_; go_big_quiet_step (fail); refine wpQuiet_nil ?_) | (refine Mix.wpMix_pure (by rfl) ?_; go_big_quiet_step (fail); refine wpQuiet_nil ?_))
  refine Mix.wpMix_chg (by rfl) (fun K hK => ?_)
  go_wp2_with fail
  refine (toDfa_c _ _ _ _ _ _ (by exact (P0.out.1)) (by omega)).mono ?_
  rintro e w6 ⟨g15, rfl, q6, hb⟩
  have hb' : Below w5.heap.size w5 w6 := (by first | (with_reducible exact hb) | (with_reducible exact up1 hb) | (with_reducible exact up2 hb) | (with_reducible exact up3 hb) | (with_reducible exact up4 hb) | (with_reducible exact below_of_drew hb) | (with_reducible exact below_of_drew (up1 hb)))
  have z6 := hb'.size
  have c6_a0_0 : w6.cell? ⟨w.heap.size, 0, none⟩ = some (.int .i64 st0) := keepc hb' c5_a0_0
  clear c5_a0_0 ac5_a0_0
  have c6_a0_1 : w6.cell? ⟨w.heap.size, 1, none⟩ = some (.slice A0 n0 c0) := keepc hb' c5_a0_1
  clear c5_a0_1 ac5_a0_1
  have c6_o14_0 : w6.cell? ⟨w4.heap.size, 0, none⟩ = some (.int .i64 st0) := keepc hb' c5_o14_0
  clear c5_o14_0 ac5_o14_0
  have c6_o14_1 : w6.cell? ⟨w4.heap.size, 1, none⟩ = some (.slice (some ⟨g13, 0, none⟩) n0 n0) := keepc hb' c5_o14_1
  clear c5_o14_1 ac5_o14_1
  have ac6_a0_0 := fun o => keepa o c6_a0_0
  have ac6_a0_1 := fun o => keepa o c6_a0_1
  have ac6_o14_0 := fun o => keepa o c6_o14_0
  have ac6_o14_1 := fun o => keepa o c6_o14_1
  have rP0 := P0.out.below hb'; clear P0; have P0 := Lib.hid rP0; clear rP0
  have rFo12 := Fo12.out.below hb'; clear Fo12; have Fo12 := Lib.hid rFo12; clear rFo12
  have rFo14 := Fo14.out.below hb'; clear Fo14; have Fo14 := Lib.hid rFo14; clear rFo14
  have rB := below_chain B.out (by omega) hb'; clear B; have B := Lib.hid rB; clear rB
  have Fo16 := Lib.hid q6; clear q6
  have em6 : Below w5.heap.size w5 w6 := hb'
  clear hb hb'
  go_wp2_with fail
  refine hK _ _ ⟨⟨_, em6⟩, rfl⟩ ?_
  clear hK K
  refine Mix.wpMix_chg (by rfl) (fun K hK => ?_)
  go_wp2_with fail
  refine (eqDfa_t _ _ _ _ _ _ _ _ _ (by exact (Fo14.out.rdI)) (by exact (Fo16.out.rdI)) (by omega)).mono ?_
  rintro e w7 ⟨rfl, hb⟩
  have hb' : Below w6.heap.size w6 w7 := (by first | (with_reducible exact hb) | (with_reducible exact up1 hb) | (with_reducible exact up2 hb) | (with_reducible exact up3 hb) | (with_reducible exact up4 hb) | (with_reducible exact below_of_drew hb) | (with_reducible exact below_of_drew (up1 hb)))
  have z7 := hb'.size
  have c7_a0_0 : w7.cell? ⟨w.heap.size, 0, none⟩ = some (.int .i64 st0) := keepc hb' c6_a0_0
  clear c6_a0_0 ac6_a0_0
  have c7_a0_1 : w7.cell? ⟨w.heap.size, 1, none⟩ = some (.slice A0 n0 c0) := keepc hb' c6_a0_1
  clear c6_a0_1 ac6_a0_1
  have c7_o14_0 : w7.cell? ⟨w4.heap.size, 0, none⟩ = some (.int .i64 st0) := keepc hb' c6_o14_0
  clear c6_o14_0 ac6_o14_0
  have c7_o14_1 : w7.cell? ⟨w4.heap.size, 1, none⟩ = some (.slice (some ⟨g13, 0, none⟩) n0 n0) := keepc hb' c6_o14_1
  clear c6_o14_1 ac6_o14_1
  have ac7_a0_0 := fun o => keepa o c7_a0_0
  have ac7_a0_1 := fun o => keepa o c7_a0_1
  have ac7_o14_0 := fun o => keepa o c7_o14_0
  have ac7_o14_1 := fun o => keepa o c7_o14_1
  have rP0 := P0.out.below hb'; clear P0; have P0 := Lib.hid rP0; clear rP0
  have rFo12 := Fo12.out.below hb'; clear Fo12; have Fo12 := Lib.hid rFo12; clear rFo12
  have rFo14 := Fo14.out.below hb'; clear Fo14; have Fo14 := Lib.hid rFo14; clear rFo14
  have rFo16 := Fo16.out.below hb'; clear Fo16; have Fo16 := Lib.hid rFo16; clear rFo16
  have rB := below_chain B.out (by omega) hb'; clear B; have B := Lib.hid rB; clear rB
  have em7 : Below w5.heap.size w5 w7 := below_chain em6 (by omega) hb'
  clear hb hb'
  go_wp2_with fail
  refine hK _ _ ⟨⟨_, em7⟩, rfl⟩ ?_
  clear hK K
  repeat (first | (refine Mix.wpMix_read (by rfl) ?_; go_big_quiet_step (fail); refine wpQuiet_nil ?_) | (refine Mix.wpMix_pure (by rfl) ?_; go_big_quiet_step (fail); refine wpQuiet_nil ?_))
  (refine Mix.wpMix_nil ?_; try simp only [Exit.then])
  clear fx_c5_a0_0
  clear fx_c5_a0_1
  clear fx_c5_o14_0
  clear fx_c5_o14_1
  clear Fo16
  go_wp2
  go_ret
  exact ⟨rfl, B.out⟩
end Go.Proofs.YtfbmjlohdhogmaaDoor
