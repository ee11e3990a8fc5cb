/-
  FnExactProofText returns true for every input: its walk, out of the contracts.
-/
import Derived.Test.YtfbmjlohdhogmaaDoorLawProof
import Derived.Test.YtfbmjlohdhogmaaDoorCTe
import Derived.Test.YtfbmjlohdhogmaaDoorOpen
namespace Go.Proofs.YtfbmjlohdhogmaaDoor
open Go.RowKit

set_option maxHeartbeats 4000000 in
set_option maxRecDepth 100000 in
theorem walkProofText (kd0 : Int) (A0 : Option Addr) (n0 : Nat) (c0 : Nat) (xs0 : List Int) (B0 : Option Addr) (m0 : Nat) (d0 : Nat) (its0 : List It) (w : World) (h0 : RdS w ([sgI A0 n0 xs0] ++ sgII B0 m0 its0)) (hb0_0 : n0 ≤ 9223372036854775807) (hb0_1 : m0 ≤ 9223372036854775807) (hj0_1 : ∀ t ∈ its0, t.n ≤ 9223372036854775807) (_o0 : i64ok kd0) (_oo0 : ∀ x ∈ xs0, i64ok x) (hT : Tab w) :
    Calls Tryd.prog 5 #[.agg #[.int .i64 kd0, .slice A0 n0 c0, .slice B0 m0 d0]] w fun e w' => e = .returned (.bool true) ∧ Below w.heap.size w w' := by
  have P0 := Lib.hid (RdSU.mk' h0); clear h0
  have HTB := Lib.hid hT; clear hT
  go_enter Tryd.func5, Tryd.ntmps5
  go_wp2_with fail
  refine (szProof_c _ _ _ _ xs0 _ _ _ its0 _ _ (by exact ((P0.out.rd).alloc _)) hb0_0 hb0_1 hj0_1 (by omega) (by omega)).mono ?_
  rintro e w1 ⟨rfl, hb⟩
  have hb' : Below w.heap.size w w1 := (by first | (with_reducible exact hb) | (with_reducible exact up1 hb) | (with_reducible exact up2 hb) | (with_reducible exact up3 hb) | (with_reducible exact up4 hb) | (with_reducible exact below_of_drew hb) | (with_reducible exact below_of_drew (up1 hb)))
  have z1 := hb'.size
  have c1_a0_0 : w1.cell? ⟨w.heap.size, 0, none⟩ = some (.int .i64 kd0) := keepc hb (by first | (simp; done) | (rw [World.cell?_alloc_past _ _ _ (by simp <;> omega)]; simp; done) | (rw [World.cell?_alloc_past _ _ _ (by simp <;> omega), World.cell?_alloc_past _ _ _ (by simp <;> omega)]; simp; done) | (rw [World.cell?_alloc_past _ _ _ (by simp <;> omega), World.cell?_alloc_past _ _ _ (by simp <;> omega), World.cell?_alloc_past _ _ _ (by simp <;> omega)]; simp; done) | (rw [World.cell?_alloc_at _ _ _ _ (by simp)]; simp; done) | (rw [World.cell?_alloc_past _ _ _ (by simp <;> omega), World.cell?_alloc_at _ _ _ _ (by simp)]; simp; done) | (rw [World.cell?_alloc_past _ _ _ (by simp <;> omega), World.cell?_alloc_past _ _ _ (by simp <;> omega), World.cell?_alloc_at _ _ _ _ (by simp)]; simp; done) | (rw [World.cell?_alloc_past _ _ _ (by simp <;> omega), World.cell?_alloc_past _ _ _ (by simp <;> omega), World.cell?_alloc_past _ _ _ (by simp <;> omega), World.cell?_alloc_at _ _ _ _ (by simp)]; simp; done))
  have hl_c1_a0_0 : w.heap.size < w1.heap.size := World.block_lt_of_cell? w1 _ c1_a0_0
  have c1_a0_1 : w1.cell? ⟨w.heap.size, 1, none⟩ = some (.slice A0 n0 c0) := keepc hb (by first | (simp; done) | (rw [World.cell?_alloc_past _ _ _ (by simp <;> omega)]; simp; done) | (rw [World.cell?_alloc_past _ _ _ (by simp <;> omega), World.cell?_alloc_past _ _ _ (by simp <;> omega)]; simp; done) | (rw [World.cell?_alloc_past _ _ _ (by simp <;> omega), World.cell?_alloc_past _ _ _ (by simp <;> omega), World.cell?_alloc_past _ _ _ (by simp <;> omega)]; simp; done) | (rw [World.cell?_alloc_at _ _ _ _ (by simp)]; simp; done) | (rw [World.cell?_alloc_past _ _ _ (by simp <;> omega), World.cell?_alloc_at _ _ _ _ (by simp)]; simp; done) | (rw [World.cell?_alloc_past _ _ _ (by simp <;> omega), World.cell?_alloc_past _ _ _ (by simp <;> omega), World.cell?_alloc_at _ _ _ _ (by simp)]; simp; done) | (rw [World.cell?_alloc_past _ _ _ (by simp <;> omega), World.cell?_alloc_past _ _ _ (by simp <;> omega), World.cell?_alloc_past _ _ _ (by simp <;> omega), World.cell?_alloc_at _ _ _ _ (by simp)]; simp; done))
  have c1_a0_2 : w1.cell? ⟨w.heap.size, 2, none⟩ = some (.slice B0 m0 d0) := keepc hb (by first | (simp; done) | (rw [World.cell?_alloc_past _ _ _ (by simp <;> omega)]; simp; done) | (rw [World.cell?_alloc_past _ _ _ (by simp <;> omega), World.cell?_alloc_past _ _ _ (by simp <;> omega)]; simp; done) | (rw [World.cell?_alloc_past _ _ _ (by simp <;> omega), World.cell?_alloc_past _ _ _ (by simp <;> omega), World.cell?_alloc_past _ _ _ (by simp <;> omega)]; simp; done) | (rw [World.cell?_alloc_at _ _ _ _ (by simp)]; simp; done) | (rw [World.cell?_alloc_past _ _ _ (by simp <;> omega), World.cell?_alloc_at _ _ _ _ (by simp)]; simp; done) | (rw [World.cell?_alloc_past _ _ _ (by simp <;> omega), World.cell?_alloc_past _ _ _ (by simp <;> omega), World.cell?_alloc_at _ _ _ _ (by simp)]; simp; done) | (rw [World.cell?_alloc_past _ _ _ (by simp <;> omega), World.cell?_alloc_past _ _ _ (by simp <;> omega), World.cell?_alloc_past _ _ _ (by simp <;> omega), World.cell?_alloc_at _ _ _ _ (by simp)]; simp; done))
  have ac1_a0_0 := fun o => keepa o c1_a0_0
  have ac1_a0_1 := fun o => keepa o c1_a0_1
  have ac1_a0_2 := fun o => keepa o c1_a0_2
  have rP0 := P0.out.below hb'; clear P0; have P0 := Lib.hid rP0; clear rP0
  have rB := hb'; have B := Lib.hid rB; clear rB
  clear hb hb'
  by_cases hs1 : 1048576 < (n0 + m0 + sumN its0)
  · rw [szOf_neg' (by omega)]
    go_wp2
    go_ret
    exact ⟨rfl, B.out⟩
  rw [szOf_pos' (by omega)]
  have hs1' : (0 : Int) ≤ 1048576 - ((n0 + m0 + sumN its0) : Nat) := by omega
  have hI1_a0 : ∀ t ∈ its0, t.n ≤ 1000000000 := fun t ht => by have := sumN_mem ht; omega
  go_wp2_with fail
  refine (toProof_c _ _ _ _ _ _ _ _ _ _ (by exact (P0.out.rd)) (by omega) (by omega) hI1_a0).mono ?_
  rintro e w2 ⟨g011, g112, js113, rfl, hx1_2, q2, hb⟩
  have hb' : Below w1.heap.size w1 w2 := (by first | (with_reducible exact hb) | (with_reducible exact up1 hb) | (with_reducible exact up2 hb) | (with_reducible exact up3 hb) | (with_reducible exact up4 hb) | (with_reducible exact below_of_drew hb) | (with_reducible exact below_of_drew (up1 hb)))
  have z2 := hb'.size
  have c2_a0_0 : w2.cell? ⟨w.heap.size, 0, none⟩ = some (.int .i64 kd0) := keepc hb' c1_a0_0
  clear c1_a0_0 ac1_a0_0
  have c2_a0_1 : w2.cell? ⟨w.heap.size, 1, none⟩ = some (.slice A0 n0 c0) := keepc hb' c1_a0_1
  clear c1_a0_1 ac1_a0_1
  have c2_a0_2 : w2.cell? ⟨w.heap.size, 2, none⟩ = some (.slice B0 m0 d0) := keepc hb' c1_a0_2
  clear c1_a0_2 ac1_a0_2
  have ac2_a0_0 := fun o => keepa o c2_a0_0
  have ac2_a0_1 := fun o => keepa o c2_a0_1
  have ac2_a0_2 := fun o => keepa o c2_a0_2
  have rP0 := P0.out.below hb'; clear P0; have P0 := Lib.hid rP0; clear rP0
  have rB := below_chain B.out (by omega) hb'; clear B; have B := Lib.hid rB; clear rB
  have Fo14 := Lib.hid q2; clear q2
  have hm1_o14 := hx1_2
  have hI1_o14 : ∀ t ∈ js113, t.n ≤ 1000000000 := hi_of ((P0.out.rd).right) ((Fo14.out.rd).right) hx1_2 hI1_a0
  have hSm1_o14 : sumN js113 ≤ sumN its0 := sum_of ((P0.out.rd).right) ((Fo14.out.rd).right) hx1_2
  clear hb hb'
  go_wp2_with fail
  refine (sProofText_c _ _ _ _ _ _ _ _ _ _ (by exact (Fo14.out.rd)) (by omega) hI1_o14).mono ?_
  rintro e w3 ⟨rfl, hb⟩
  have hb' : Below w2.heap.size w2 w3 := (by first | (with_reducible exact hb) | (with_reducible exact up1 hb) | (with_reducible exact up2 hb) | (with_reducible exact up3 hb) | (with_reducible exact up4 hb) | (with_reducible exact below_of_drew hb) | (with_reducible exact below_of_drew (up1 hb)))
  have z3 := hb'.size
  have c3_a0_0 : w3.cell? ⟨w.heap.size, 0, none⟩ = some (.int .i64 kd0) := keepc hb' c2_a0_0
  clear c2_a0_0 ac2_a0_0
  have c3_a0_1 : w3.cell? ⟨w.heap.size, 1, none⟩ = some (.slice A0 n0 c0) := keepc hb' c2_a0_1
  clear c2_a0_1 ac2_a0_1
  have c3_a0_2 : w3.cell? ⟨w.heap.size, 2, none⟩ = some (.slice B0 m0 d0) := keepc hb' c2_a0_2
  clear c2_a0_2 ac2_a0_2
  have ac3_a0_0 := fun o => keepa o c3_a0_0
  have ac3_a0_1 := fun o => keepa o c3_a0_1
  have ac3_a0_2 := fun o => keepa o c3_a0_2
  have rP0 := P0.out.below hb'; clear P0; have P0 := Lib.hid rP0; clear rP0
  have rFo14 := Fo14.out.below hb'; clear Fo14; have Fo14 := Lib.hid rFo14; clear rFo14
  have rB := below_chain B.out (by omega) hb'; clear B; have B := Lib.hid rB; clear rB
  clear hb hb'
  go_wp2_with fail
  refine (toProof_c _ _ _ _ _ _ _ _ _ _ (by exact (P0.out.rd)) (by omega) (by omega) hI1_a0).mono ?_
  rintro e w4 ⟨g015, g116, js117, rfl, hx1_4, q4, hb⟩
  have hb' : Below w3.heap.size w3 w4 := (by first | (with_reducible exact hb) | (with_reducible exact up1 hb) | (with_reducible exact up2 hb) | (with_reducible exact up3 hb) | (with_reducible exact up4 hb) | (with_reducible exact below_of_drew hb) | (with_reducible exact below_of_drew (up1 hb)))
  have z4 := hb'.size
  have c4_a0_0 : w4.cell? ⟨w.heap.size, 0, none⟩ = some (.int .i64 kd0) := keepc hb' c3_a0_0
  clear c3_a0_0 ac3_a0_0
  have c4_a0_1 : w4.cell? ⟨w.heap.size, 1, none⟩ = some (.slice A0 n0 c0) := keepc hb' c3_a0_1
  clear c3_a0_1 ac3_a0_1
  have c4_a0_2 : w4.cell? ⟨w.heap.size, 2, none⟩ = some (.slice B0 m0 d0) := keepc hb' c3_a0_2
  clear c3_a0_2 ac3_a0_2
  have ac4_a0_0 := fun o => keepa o c4_a0_0
  have ac4_a0_1 := fun o => keepa o c4_a0_1
  have ac4_a0_2 := fun o => keepa o c4_a0_2
  have rP0 := P0.out.below hb'; clear P0; have P0 := Lib.hid rP0; clear rP0
  have rFo14 := Fo14.out.below hb'; clear Fo14; have Fo14 := Lib.hid rFo14; clear rFo14
  have rB := below_chain B.out (by omega) hb'; clear B; have B := Lib.hid rB; clear rB
  have Fo18 := Lib.hid q4; clear q4
  have hm1_o18 := hx1_4
  have hI1_o18 : ∀ t ∈ js117, t.n ≤ 1000000000 := hi_of ((P0.out.rd).right) ((Fo18.out.rd).right) hx1_4 hI1_a0
  have hSm1_o18 : sumN js117 ≤ sumN its0 := sum_of ((P0.out.rd).right) ((Fo18.out.rd).right) hx1_4
  clear hb hb'
  go_wp2_with fail
  refine (iProofText_c _ _ _ _ _ _ _ _ _ _ (by exact ((Fo18.out.rd).alloc _)) (by omega) hI1_o18 (by exact (((HTB.out.below B.out)).alloc _))).mono ?_
  rintro e w5 ⟨rfl, hb⟩
  have hb' : Below w4.heap.size w4 w5 := (by first | (with_reducible exact hb) | (with_reducible exact up1 hb) | (with_reducible exact up2 hb) | (with_reducible exact up3 hb) | (with_reducible exact up4 hb) | (with_reducible exact below_of_drew hb) | (with_reducible exact below_of_drew (up1 hb)))
  have z5 := hb'.size
  have c5_a0_0 : w5.cell? ⟨w.heap.size, 0, none⟩ = some (.int .i64 kd0) := keepc hb' c4_a0_0
  clear c4_a0_0 ac4_a0_0
  have c5_a0_1 : w5.cell? ⟨w.heap.size, 1, none⟩ = some (.slice A0 n0 c0) := keepc hb' c4_a0_1
  clear c4_a0_1 ac4_a0_1
  have c5_a0_2 : w5.cell? ⟨w.heap.size, 2, none⟩ = some (.slice B0 m0 d0) := keepc hb' c4_a0_2
  clear c4_a0_2 ac4_a0_2
  have c5_o18_0 : w5.cell? ⟨w4.heap.size, 0, none⟩ = some (.int .i64 kd0) := keepc hb (by first | (simp; done) | (rw [World.cell?_alloc_past _ _ _ (by simp <;> omega)]; simp; done) | (rw [World.cell?_alloc_past _ _ _ (by simp <;> omega), World.cell?_alloc_past _ _ _ (by simp <;> omega)]; simp; done) | (rw [World.cell?_alloc_past _ _ _ (by simp <;> omega), World.cell?_alloc_past _ _ _ (by simp <;> omega), World.cell?_alloc_past _ _ _ (by simp <;> omega)]; simp; done) | (rw [World.cell?_alloc_at _ _ _ _ (by simp)]; simp; done) | (rw [World.cell?_alloc_past _ _ _ (by simp <;> omega), World.cell?_alloc_at _ _ _ _ (by simp)]; simp; done) | (rw [World.cell?_alloc_past _ _ _ (by simp <;> omega), World.cell?_alloc_past _ _ _ (by simp <;> omega), World.cell?_alloc_at _ _ _ _ (by simp)]; simp; done) | (rw [World.cell?_alloc_past _ _ _ (by simp <;> omega), World.cell?_alloc_past _ _ _ (by simp <;> omega), World.cell?_alloc_past _ _ _ (by simp <;> omega), World.cell?_alloc_at _ _ _ _ (by simp)]; simp; done))
  have hl_c5_o18_0 : w4.heap.size < w5.heap.size := World.block_lt_of_cell? w5 _ c5_o18_0
  have c5_o18_1 : w5.cell? ⟨w4.heap.size, 1, none⟩ = some (.slice (some ⟨g015, 0, none⟩) n0 n0) := keepc hb (by first | (simp; done) | (rw [World.cell?_alloc_past _ _ _ (by simp <;> omega)]; simp; done) | (rw [World.cell?_alloc_past _ _ _ (by simp <;> omega), World.cell?_alloc_past _ _ _ (by simp <;> omega)]; simp; done) | (rw [World.cell?_alloc_past _ _ _ (by simp <;> omega), World.cell?_alloc_past _ _ _ (by simp <;> omega), World.cell?_alloc_past _ _ _ (by simp <;> omega)]; simp; done) | (rw [World.cell?_alloc_at _ _ _ _ (by simp)]; simp; done) | (rw [World.cell?_alloc_past _ _ _ (by simp <;> omega), World.cell?_alloc_at _ _ _ _ (by simp)]; simp; done) | (rw [World.cell?_alloc_past _ _ _ (by simp <;> omega), World.cell?_alloc_past _ _ _ (by simp <;> omega), World.cell?_alloc_at _ _ _ _ (by simp)]; simp; done) | (rw [World.cell?_alloc_past _ _ _ (by simp <;> omega), World.cell?_alloc_past _ _ _ (by simp <;> omega), World.cell?_alloc_past _ _ _ (by simp <;> omega), World.cell?_alloc_at _ _ _ _ (by simp)]; simp; done))
  have c5_o18_2 : w5.cell? ⟨w4.heap.size, 2, none⟩ = some (.slice (some ⟨g116, 0, none⟩) m0 m0) := keepc hb (by first | (simp; done) | (rw [World.cell?_alloc_past _ _ _ (by simp <;> omega)]; simp; done) | (rw [World.cell?_alloc_past _ _ _ (by simp <;> omega), World.cell?_alloc_past _ _ _ (by simp <;> omega)]; simp; done) | (rw [World.cell?_alloc_past _ _ _ (by simp <;> omega), World.cell?_alloc_past _ _ _ (by simp <;> omega), World.cell?_alloc_past _ _ _ (by simp <;> omega)]; simp; done) | (rw [World.cell?_alloc_at _ _ _ _ (by simp)]; simp; done) | (rw [World.cell?_alloc_past _ _ _ (by simp <;> omega), World.cell?_alloc_at _ _ _ _ (by simp)]; simp; done) | (rw [World.cell?_alloc_past _ _ _ (by simp <;> omega), World.cell?_alloc_past _ _ _ (by simp <;> omega), World.cell?_alloc_at _ _ _ _ (by simp)]; simp; done) | (rw [World.cell?_alloc_past _ _ _ (by simp <;> omega), World.cell?_alloc_past _ _ _ (by simp <;> omega), World.cell?_alloc_past _ _ _ (by simp <;> omega), World.cell?_alloc_at _ _ _ _ (by simp)]; simp; done))
  have ac5_a0_0 := fun o => keepa o c5_a0_0
  have ac5_a0_1 := fun o => keepa o c5_a0_1
  have ac5_a0_2 := fun o => keepa o c5_a0_2
  have ac5_o18_0 := fun o => keepa o c5_o18_0
  have ac5_o18_1 := fun o => keepa o c5_o18_1
  have ac5_o18_2 := fun o => keepa o c5_o18_2
  have rP0 := P0.out.below hb'; clear P0; have P0 := Lib.hid rP0; clear rP0
  have rFo14 := Fo14.out.below hb'; clear Fo14; have Fo14 := Lib.hid rFo14; clear rFo14
  have rFo18 := Fo18.out.below hb'; clear Fo18; have Fo18 := Lib.hid rFo18; clear rFo18
  have rB := below_chain B.out (by omega) hb'; clear B; have B := Lib.hid rB; clear rB
  clear hb hb'
  go_wp2_with fail
  have fx_c5_a0_0 := Ext.cell c5_a0_0
  have fx_c5_a0_1 := Ext.cell c5_a0_1
  have fx_c5_a0_2 := Ext.cell c5_a0_2
  have fx_c5_o18_0 := Ext.cell c5_o18_0
  have fx_c5_o18_1 := Ext.cell c5_o18_1
  have fx_c5_o18_2 := Ext.cell c5_o18_2
  refine Mix.wp_region_mix [3, 3, 1, 1, 0] (fun w' => ∃ x : Ext w5, w' = x.w) (by kernel_rfl) (by kernel_rfl) (InExt.drew _) ?_
  repeat (first | (refine Mix.wpMix_read (by rfl) ?_; go_big_quiet_step (fail); refine wpQuiet_nil ?_) | (refine Mix.wpMix_pure (by rfl) ?_; go_big_quiet_step (fail); refine wpQuiet_nil ?_))
  refine Mix.wpMix_chg (by rfl) (fun K hK => ?_)
  go_wp2_with fail
  refine (toProof_c _ _ _ _ _ _ _ _ _ _ (by exact (P0.out.rd)) (by omega) (by omega) hI1_a0).mono ?_
  rintro e w6 ⟨g019, g120, js121, rfl, hx1_6, q6, hb⟩
  have hb' : Below w5.heap.size w5 w6 := (by first | (with_reducible exact hb) | (with_reducible exact up1 hb) | (with_reducible exact up2 hb) | (with_reducible exact up3 hb) | (with_reducible exact up4 hb) | (with_reducible exact below_of_drew hb) | (with_reducible exact below_of_drew (up1 hb)))
  have z6 := hb'.size
  have c6_a0_0 : w6.cell? ⟨w.heap.size, 0, none⟩ = some (.int .i64 kd0) := keepc hb' c5_a0_0
  clear c5_a0_0 ac5_a0_0
  have c6_a0_1 : w6.cell? ⟨w.heap.size, 1, none⟩ = some (.slice A0 n0 c0) := keepc hb' c5_a0_1
  clear c5_a0_1 ac5_a0_1
  have c6_a0_2 : w6.cell? ⟨w.heap.size, 2, none⟩ = some (.slice B0 m0 d0) := keepc hb' c5_a0_2
  clear c5_a0_2 ac5_a0_2
  have c6_o18_0 : w6.cell? ⟨w4.heap.size, 0, none⟩ = some (.int .i64 kd0) := keepc hb' c5_o18_0
  clear c5_o18_0 ac5_o18_0
  have c6_o18_1 : w6.cell? ⟨w4.heap.size, 1, none⟩ = some (.slice (some ⟨g015, 0, none⟩) n0 n0) := keepc hb' c5_o18_1
  clear c5_o18_1 ac5_o18_1
  have c6_o18_2 : w6.cell? ⟨w4.heap.size, 2, none⟩ = some (.slice (some ⟨g116, 0, none⟩) m0 m0) := keepc hb' c5_o18_2
  clear c5_o18_2 ac5_o18_2
  have ac6_a0_0 := fun o => keepa o c6_a0_0
  have ac6_a0_1 := fun o => keepa o c6_a0_1
  have ac6_a0_2 := fun o => keepa o c6_a0_2
  have ac6_o18_0 := fun o => keepa o c6_o18_0
  have ac6_o18_1 := fun o => keepa o c6_o18_1
  have ac6_o18_2 := fun o => keepa o c6_o18_2
  have rP0 := P0.out.below hb'; clear P0; have P0 := Lib.hid rP0; clear rP0
  have rFo14 := Fo14.out.below hb'; clear Fo14; have Fo14 := Lib.hid rFo14; clear rFo14
  have rFo18 := Fo18.out.below hb'; clear Fo18; have Fo18 := Lib.hid rFo18; clear rFo18
  have rB := below_chain B.out (by omega) hb'; clear B; have B := Lib.hid rB; clear rB
  have Fo22 := Lib.hid q6; clear q6
  have hm1_o22 := hx1_6
  have hI1_o22 : ∀ t ∈ js121, t.n ≤ 1000000000 := hi_of ((P0.out.rd).right) ((Fo22.out.rd).right) hx1_6 hI1_a0
  have hSm1_o22 : sumN js121 ≤ sumN its0 := sum_of ((P0.out.rd).right) ((Fo22.out.rd).right) hx1_6
  have em6 : Below w5.heap.size w5 w6 := hb'
  clear hb hb'
  go_wp2_with fail
  refine hK _ _ ⟨⟨_, em6⟩, rfl⟩ ?_
  clear hK K
  refine Mix.wpMix_chg (by rfl) (fun K hK => ?_)
  go_wp2_with fail
  refine (eqProof_t _ _ _ _ _ _ _ _ _ _ _ _ _ _ _ _ _ (by exact (Fo18.out.rd)) (by exact (Fo22.out.rd)) (by omega) (by omega) hI1_o18 (hm1_o18.trans hm1_o22.symm)).mono ?_
  rintro e w7 ⟨rfl, hb⟩
  have hb' : Below w6.heap.size w6 w7 := (by first | (with_reducible exact hb) | (with_reducible exact up1 hb) | (with_reducible exact up2 hb) | (with_reducible exact up3 hb) | (with_reducible exact up4 hb) | (with_reducible exact below_of_drew hb) | (with_reducible exact below_of_drew (up1 hb)))
  have z7 := hb'.size
  have c7_a0_0 : w7.cell? ⟨w.heap.size, 0, none⟩ = some (.int .i64 kd0) := keepc hb' c6_a0_0
  clear c6_a0_0 ac6_a0_0
  have c7_a0_1 : w7.cell? ⟨w.heap.size, 1, none⟩ = some (.slice A0 n0 c0) := keepc hb' c6_a0_1
  clear c6_a0_1 ac6_a0_1
  have c7_a0_2 : w7.cell? ⟨w.heap.size, 2, none⟩ = some (.slice B0 m0 d0) := keepc hb' c6_a0_2
  clear c6_a0_2 ac6_a0_2
  have c7_o18_0 : w7.cell? ⟨w4.heap.size, 0, none⟩ = some (.int .i64 kd0) := keepc hb' c6_o18_0
  clear c6_o18_0 ac6_o18_0
  have c7_o18_1 : w7.cell? ⟨w4.heap.size, 1, none⟩ = some (.slice (some ⟨g015, 0, none⟩) n0 n0) := keepc hb' c6_o18_1
  clear c6_o18_1 ac6_o18_1
  have c7_o18_2 : w7.cell? ⟨w4.heap.size, 2, none⟩ = some (.slice (some ⟨g116, 0, none⟩) m0 m0) := keepc hb' c6_o18_2
  clear c6_o18_2 ac6_o18_2
  have ac7_a0_0 := fun o => keepa o c7_a0_0
  have ac7_a0_1 := fun o => keepa o c7_a0_1
  have ac7_a0_2 := fun o => keepa o c7_a0_2
  have ac7_o18_0 := fun o => keepa o c7_o18_0
  have ac7_o18_1 := fun o => keepa o c7_o18_1
  have ac7_o18_2 := fun o => keepa o c7_o18_2
  have rP0 := P0.out.below hb'; clear P0; have P0 := Lib.hid rP0; clear rP0
  have rFo14 := Fo14.out.below hb'; clear Fo14; have Fo14 := Lib.hid rFo14; clear rFo14
  have rFo18 := Fo18.out.below hb'; clear Fo18; have Fo18 := Lib.hid rFo18; clear rFo18
  have rFo22 := Fo22.out.below hb'; clear Fo22; have Fo22 := Lib.hid rFo22; clear rFo22
  have rB := below_chain B.out (by omega) hb'; clear B; have B := Lib.hid rB; clear rB
  have em7 : Below w5.heap.size w5 w7 := below_chain em6 (by omega) hb'
  clear hb hb'
  go_wp2_with fail
  refine hK _ _ ⟨⟨_, em7⟩, rfl⟩ ?_
  clear hK K
  repeat (first | (refine Mix.wpMix_read (by rfl) ?_; go_big_quiet_step (fail); refine wpQuiet_nil ?_) | (refine Mix.wpMix_pure (by rfl) ?_; go_big_quiet_step (fail); refine wpQuiet_nil ?_))
  (refine Mix.wpMix_nil ?_; try simp only [Exit.then])
  clear fx_c5_a0_0
  clear fx_c5_a0_1
  clear fx_c5_a0_2
  clear fx_c5_o18_0
  clear fx_c5_o18_1
  clear fx_c5_o18_2
  clear Fo22
  go_wp2
  go_ret
  exact ⟨rfl, B.out⟩
end Go.Proofs.YtfbmjlohdhogmaaDoor
