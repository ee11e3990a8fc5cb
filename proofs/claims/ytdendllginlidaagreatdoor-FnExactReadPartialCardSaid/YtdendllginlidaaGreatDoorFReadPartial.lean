/-
  FnExactReadPartial returns true for every input: its walk, out of the contracts.
-/
import Derived.Test.YtdendllginlidaaGreatDoorLawMachine
import Derived.Test.YtdendllginlidaaGreatDoorLawPartial
import Derived.Test.YtdendllginlidaaGreatDoorCSi
import Derived.Test.YtdendllginlidaaGreatDoorOpen
namespace Go.Proofs.YtdendllginlidaaGreatDoor
open Go.RowKit

set_option maxHeartbeats 4000000 in
set_option maxRecDepth 100000 in
theorem walkReadPartial (sy0 : Int) (st0 : Int) (A0 : Option Addr) (n0 : Nat) (c0 : Nat) (xs0 : List (Int × Int × Int)) (x1 : ByteArray) (w : World) (h0 : RdS w [sgX enc3 3 A0 n0 xs0]) (hb0_0 : n0 ≤ 9223372036854775807) (_o0 : i64ok sy0) (_p0 : i64ok st0) (_oo0 : ∀ x ∈ xs0, i64ok x.1 ∧ i64ok x.2.1 ∧ i64ok x.2.2) (_o1 : x1.size ≤ maxLen) (hT : LibS w) :
    Calls Tryz.prog 3 #[.agg #[.int .i64 sy0, .int .i64 st0, .slice A0 n0 c0], .string x1] w fun e w' => e = .returned (.bool true) ∧ Below w.heap.size w w' := by
  have P0 := Lib.hid (RdSU.mk' h0); clear h0
  have HTB := Lib.hid hT; clear hT
  obtain ⟨RR, hRR⟩ : ∃ RR, ptV (spR sy0 st0 xs0 x1.data.toList) = RR := ⟨_, rfl⟩; have HRR := Lib.hid hRR; clear hRR
  by_cases hsx1 : 1048576 < x1.size
  · go_enter Tryz.func3, Tryz.ntmps3
    go_wp2
    go_ret
    exact ⟨rfl, (by first | exact below_size.alloc (Nat.le_refl _) _ | exact (below_size.alloc (Nat.le_refl _) _).alloc (by simp) _ | exact ((below_size.alloc (Nat.le_refl _) _).alloc (by simp) _).alloc (by simp; omega) _)⟩
  go_enter Tryz.func3, Tryz.ntmps3
  go_wp2_with fail
  refine (szMachine_c _ _ _ _ _ xs0 _ _ hb0_0 (by omega) (by omega)).mono ?_
  rintro e w1 ⟨rfl, hb⟩
  have hb' : Below w.heap.size w w1 := (by first | (with_reducible exact hb) | (with_reducible exact up1 hb) | (with_reducible exact up2 hb) | (with_reducible exact up3 hb) | (with_reducible exact up4 hb) | (with_reducible exact below_of_drew hb) | (with_reducible exact below_of_drew (up1 hb)))
  have z1 := hb'.size
  have c1_a0_0 : w1.cell? ⟨w.heap.size, 0, none⟩ = some (.int .i64 sy0) := keepc hb (by first | (simp; done) | (rw [World.cell?_alloc_past _ _ _ (by simp <;> omega)]; simp; done) | (rw [World.cell?_alloc_past _ _ _ (by simp <;> omega), World.cell?_alloc_past _ _ _ (by simp <;> omega)]; simp; done) | (rw [World.cell?_alloc_past _ _ _ (by simp <;> omega), World.cell?_alloc_past _ _ _ (by simp <;> omega), World.cell?_alloc_past _ _ _ (by simp <;> omega)]; simp; done) | (rw [World.cell?_alloc_at _ _ _ _ (by simp)]; simp; done) | (rw [World.cell?_alloc_past _ _ _ (by simp <;> omega), World.cell?_alloc_at _ _ _ _ (by simp)]; simp; done) | (rw [World.cell?_alloc_past _ _ _ (by simp <;> omega), World.cell?_alloc_past _ _ _ (by simp <;> omega), World.cell?_alloc_at _ _ _ _ (by simp)]; simp; done) | (rw [World.cell?_alloc_past _ _ _ (by simp <;> omega), World.cell?_alloc_past _ _ _ (by simp <;> omega), World.cell?_alloc_past _ _ _ (by simp <;> omega), World.cell?_alloc_at _ _ _ _ (by simp)]; simp; done))
  have hl_c1_a0_0 : w.heap.size < w1.heap.size := World.block_lt_of_cell? w1 _ c1_a0_0
  have c1_a0_1 : w1.cell? ⟨w.heap.size, 1, none⟩ = some (.int .i64 st0) := keepc hb (by first | (simp; done) | (rw [World.cell?_alloc_past _ _ _ (by simp <;> omega)]; simp; done) | (rw [World.cell?_alloc_past _ _ _ (by simp <;> omega), World.cell?_alloc_past _ _ _ (by simp <;> omega)]; simp; done) | (rw [World.cell?_alloc_past _ _ _ (by simp <;> omega), World.cell?_alloc_past _ _ _ (by simp <;> omega), World.cell?_alloc_past _ _ _ (by simp <;> omega)]; simp; done) | (rw [World.cell?_alloc_at _ _ _ _ (by simp)]; simp; done) | (rw [World.cell?_alloc_past _ _ _ (by simp <;> omega), World.cell?_alloc_at _ _ _ _ (by simp)]; simp; done) | (rw [World.cell?_alloc_past _ _ _ (by simp <;> omega), World.cell?_alloc_past _ _ _ (by simp <;> omega), World.cell?_alloc_at _ _ _ _ (by simp)]; simp; done) | (rw [World.cell?_alloc_past _ _ _ (by simp <;> omega), World.cell?_alloc_past _ _ _ (by simp <;> omega), World.cell?_alloc_past _ _ _ (by simp <;> omega), World.cell?_alloc_at _ _ _ _ (by simp)]; simp; done))
  have c1_a0_2 : w1.cell? ⟨w.heap.size, 2, none⟩ = some (.slice A0 n0 c0) := keepc hb (by first | (simp; done) | (rw [World.cell?_alloc_past _ _ _ (by simp <;> omega)]; simp; done) | (rw [World.cell?_alloc_past _ _ _ (by simp <;> omega), World.cell?_alloc_past _ _ _ (by simp <;> omega)]; simp; done) | (rw [World.cell?_alloc_past _ _ _ (by simp <;> omega), World.cell?_alloc_past _ _ _ (by simp <;> omega), World.cell?_alloc_past _ _ _ (by simp <;> omega)]; simp; done) | (rw [World.cell?_alloc_at _ _ _ _ (by simp)]; simp; done) | (rw [World.cell?_alloc_past _ _ _ (by simp <;> omega), World.cell?_alloc_at _ _ _ _ (by simp)]; simp; done) | (rw [World.cell?_alloc_past _ _ _ (by simp <;> omega), World.cell?_alloc_past _ _ _ (by simp <;> omega), World.cell?_alloc_at _ _ _ _ (by simp)]; simp; done) | (rw [World.cell?_alloc_past _ _ _ (by simp <;> omega), World.cell?_alloc_past _ _ _ (by simp <;> omega), World.cell?_alloc_past _ _ _ (by simp <;> omega), World.cell?_alloc_at _ _ _ _ (by simp)]; simp; done))
  have ac1_a0_0 := fun o => keepa o c1_a0_0
  have ac1_a0_1 := fun o => keepa o c1_a0_1
  have ac1_a0_2 := fun o => keepa o c1_a0_2
  have rP0 := P0.out.below hb'; clear P0; have P0 := Lib.hid rP0; clear rP0
  have rB := hb'; have B := Lib.hid rB; clear rB
  clear hb hb'
  by_cases hs1 : 1048576 < n0
  · rw [szOf_neg' (by omega)]
    go_wp2
    go_ret
    exact ⟨rfl, B.out⟩
  rw [szOf_pos' (by omega)]
  have hs1' : (0 : Int) ≤ 1048576 - (n0 : Nat) := by omega
  go_wp2_with fail
  refine (toMachine_c _ _ _ _ _ _ _ (by exact (P0.out.rd)) (by omega)).mono ?_
  rintro e w2 ⟨g011, rfl, q2, hb⟩
  have hb' : Below w1.heap.size w1 w2 := (by first | (with_reducible exact hb) | (with_reducible exact up1 hb) | (with_reducible exact up2 hb) | (with_reducible exact up3 hb) | (with_reducible exact up4 hb) | (with_reducible exact below_of_drew hb) | (with_reducible exact below_of_drew (up1 hb)))
  have z2 := hb'.size
  have c2_a0_0 : w2.cell? ⟨w.heap.size, 0, none⟩ = some (.int .i64 sy0) := keepc hb' c1_a0_0
  clear c1_a0_0 ac1_a0_0
  have c2_a0_1 : w2.cell? ⟨w.heap.size, 1, none⟩ = some (.int .i64 st0) := keepc hb' c1_a0_1
  clear c1_a0_1 ac1_a0_1
  have c2_a0_2 : w2.cell? ⟨w.heap.size, 2, none⟩ = some (.slice A0 n0 c0) := keepc hb' c1_a0_2
  clear c1_a0_2 ac1_a0_2
  have ac2_a0_0 := fun o => keepa o c2_a0_0
  have ac2_a0_1 := fun o => keepa o c2_a0_1
  have ac2_a0_2 := fun o => keepa o c2_a0_2
  have rP0 := P0.out.below hb'; clear P0; have P0 := Lib.hid rP0; clear rP0
  have rB := below_chain B.out (by omega) hb'; clear B; have B := Lib.hid rB; clear rB
  have Fo12 := Lib.hid q2; clear q2
  clear hb hb'
  go_wp2_with fail
  refine (sReadPartial_c _ _ _ _ _ _ _ _ HRR.out _ (by exact (Fo12.out.rd)) (by omega) (by omega)).mono ?_
  rintro e w3 ⟨A13, n14, c15, rfl, q16, l17, hb⟩
  have hb' : Below w2.heap.size w2 w3 := (by first | (with_reducible exact hb) | (with_reducible exact up1 hb) | (with_reducible exact up2 hb) | (with_reducible exact up3 hb) | (with_reducible exact up4 hb) | (with_reducible exact below_of_drew hb) | (with_reducible exact below_of_drew (up1 hb)))
  have z3 := hb'.size
  have c3_a0_0 : w3.cell? ⟨w.heap.size, 0, none⟩ = some (.int .i64 sy0) := keepc hb' c2_a0_0
  clear c2_a0_0 ac2_a0_0
  have c3_a0_1 : w3.cell? ⟨w.heap.size, 1, none⟩ = some (.int .i64 st0) := keepc hb' c2_a0_1
  clear c2_a0_1 ac2_a0_1
  have c3_a0_2 : w3.cell? ⟨w.heap.size, 2, none⟩ = some (.slice A0 n0 c0) := keepc hb' c2_a0_2
  clear c2_a0_2 ac2_a0_2
  have ac3_a0_0 := fun o => keepa o c3_a0_0
  have ac3_a0_1 := fun o => keepa o c3_a0_1
  have ac3_a0_2 := fun o => keepa o c3_a0_2
  have rP0 := P0.out.below hb'; clear P0; have P0 := Lib.hid rP0; clear rP0
  have rFo12 := Fo12.out.below hb'; clear Fo12; have Fo12 := Lib.hid rFo12; clear rFo12
  have rB := below_chain B.out (by omega) hb'; clear B; have B := Lib.hid rB; clear rB
  have Fo18 := Lib.hid q16; clear q16
  clear hb hb'
  go_wp2_with fail
  refine (toMachine_c _ _ _ _ _ _ _ (by exact ((P0.out.rd).alloc _)) (by omega)).mono ?_
  rintro e w4 ⟨g019, rfl, q4, hb⟩
  try simp only [World.size_alloc] at q4
  have hb' : Below w3.heap.size w3 w4 := (by first | (with_reducible exact hb) | (with_reducible exact up1 hb) | (with_reducible exact up2 hb) | (with_reducible exact up3 hb) | (with_reducible exact up4 hb) | (with_reducible exact below_of_drew hb) | (with_reducible exact below_of_drew (up1 hb)))
  have z4 := hb'.size
  have c4_a0_0 : w4.cell? ⟨w.heap.size, 0, none⟩ = some (.int .i64 sy0) := keepc hb' c3_a0_0
  clear c3_a0_0 ac3_a0_0
  have c4_a0_1 : w4.cell? ⟨w.heap.size, 1, none⟩ = some (.int .i64 st0) := keepc hb' c3_a0_1
  clear c3_a0_1 ac3_a0_1
  have c4_a0_2 : w4.cell? ⟨w.heap.size, 2, none⟩ = some (.slice A0 n0 c0) := keepc hb' c3_a0_2
  clear c3_a0_2 ac3_a0_2
  have c4_o18_0 : w4.cell? ⟨w3.heap.size, 0, none⟩ = some (.int .i64 RR.1.1) := keepc hb (by first | (simp; done) | (rw [World.cell?_alloc_past _ _ _ (by simp <;> omega)]; simp; done) | (rw [World.cell?_alloc_past _ _ _ (by simp <;> omega), World.cell?_alloc_past _ _ _ (by simp <;> omega)]; simp; done) | (rw [World.cell?_alloc_past _ _ _ (by simp <;> omega), World.cell?_alloc_past _ _ _ (by simp <;> omega), World.cell?_alloc_past _ _ _ (by simp <;> omega)]; simp; done) | (rw [World.cell?_alloc_at _ _ _ _ (by simp)]; simp; done) | (rw [World.cell?_alloc_past _ _ _ (by simp <;> omega), World.cell?_alloc_at _ _ _ _ (by simp)]; simp; done) | (rw [World.cell?_alloc_past _ _ _ (by simp <;> omega), World.cell?_alloc_past _ _ _ (by simp <;> omega), World.cell?_alloc_at _ _ _ _ (by simp)]; simp; done) | (rw [World.cell?_alloc_past _ _ _ (by simp <;> omega), World.cell?_alloc_past _ _ _ (by simp <;> omega), World.cell?_alloc_past _ _ _ (by simp <;> omega), World.cell?_alloc_at _ _ _ _ (by simp)]; simp; done))
  have hl_c4_o18_0 : w3.heap.size < w4.heap.size := World.block_lt_of_cell? w4 _ c4_o18_0
  have c4_o18_1 : w4.cell? ⟨w3.heap.size, 1, none⟩ = some (.int .i64 RR.1.2.1) := keepc hb (by first | (simp; done) | (rw [World.cell?_alloc_past _ _ _ (by simp <;> omega)]; simp; done) | (rw [World.cell?_alloc_past _ _ _ (by simp <;> omega), World.cell?_alloc_past _ _ _ (by simp <;> omega)]; simp; done) | (rw [World.cell?_alloc_past _ _ _ (by simp <;> omega), World.cell?_alloc_past _ _ _ (by simp <;> omega), World.cell?_alloc_past _ _ _ (by simp <;> omega)]; simp; done) | (rw [World.cell?_alloc_at _ _ _ _ (by simp)]; simp; done) | (rw [World.cell?_alloc_past _ _ _ (by simp <;> omega), World.cell?_alloc_at _ _ _ _ (by simp)]; simp; done) | (rw [World.cell?_alloc_past _ _ _ (by simp <;> omega), World.cell?_alloc_past _ _ _ (by simp <;> omega), World.cell?_alloc_at _ _ _ _ (by simp)]; simp; done) | (rw [World.cell?_alloc_past _ _ _ (by simp <;> omega), World.cell?_alloc_past _ _ _ (by simp <;> omega), World.cell?_alloc_past _ _ _ (by simp <;> omega), World.cell?_alloc_at _ _ _ _ (by simp)]; simp; done))
  have c4_o18_2 : w4.cell? ⟨w3.heap.size, 2, none⟩ = some (.slice A13 n14 c15) := keepc hb (by first | (simp; done) | (rw [World.cell?_alloc_past _ _ _ (by simp <;> omega)]; simp; done) | (rw [World.cell?_alloc_past _ _ _ (by simp <;> omega), World.cell?_alloc_past _ _ _ (by simp <;> omega)]; simp; done) | (rw [World.cell?_alloc_past _ _ _ (by simp <;> omega), World.cell?_alloc_past _ _ _ (by simp <;> omega), World.cell?_alloc_past _ _ _ (by simp <;> omega)]; simp; done) | (rw [World.cell?_alloc_at _ _ _ _ (by simp)]; simp; done) | (rw [World.cell?_alloc_past _ _ _ (by simp <;> omega), World.cell?_alloc_at _ _ _ _ (by simp)]; simp; done) | (rw [World.cell?_alloc_past _ _ _ (by simp <;> omega), World.cell?_alloc_past _ _ _ (by simp <;> omega), World.cell?_alloc_at _ _ _ _ (by simp)]; simp; done) | (rw [World.cell?_alloc_past _ _ _ (by simp <;> omega), World.cell?_alloc_past _ _ _ (by simp <;> omega), World.cell?_alloc_past _ _ _ (by simp <;> omega), World.cell?_alloc_at _ _ _ _ (by simp)]; simp; done))
  have ac4_a0_0 := fun o => keepa o c4_a0_0
  have ac4_a0_1 := fun o => keepa o c4_a0_1
  have ac4_a0_2 := fun o => keepa o c4_a0_2
  have ac4_o18_0 := fun o => keepa o c4_o18_0
  have ac4_o18_1 := fun o => keepa o c4_o18_1
  have ac4_o18_2 := fun o => keepa o c4_o18_2
  have rP0 := P0.out.below hb'; clear P0; have P0 := Lib.hid rP0; clear rP0
  have rFo12 := Fo12.out.below hb'; clear Fo12; have Fo12 := Lib.hid rFo12; clear rFo12
  have rFo18 := Fo18.out.below hb'; clear Fo18; have Fo18 := Lib.hid rFo18; clear rFo18
  have rB := below_chain B.out (by omega) hb'; clear B; have B := Lib.hid rB; clear rB
  have Fo20 := Lib.hid q4; clear q4
  clear hb hb'
  go_wp2_with fail
  refine (iReadPartial_c _ _ _ _ _ _ _ _ HRR.out _ (by exact ((Fo20.out.rd).alloc _)) (by omega) (by omega) (by exact (((HTB.out.below B.out)).alloc _))).mono ?_
  rintro e w5 ⟨A21, n22, c23, rfl, q24, l25, hb⟩
  try simp only [World.size_alloc] at q24
  have hb' : Below w4.heap.size w4 w5 := (by first | (with_reducible exact hb) | (with_reducible exact up1 hb) | (with_reducible exact up2 hb) | (with_reducible exact up3 hb) | (with_reducible exact up4 hb) | (with_reducible exact below_of_drew hb) | (with_reducible exact below_of_drew (up1 hb)))
  have z5 := hb'.size
  have c5_a0_0 : w5.cell? ⟨w.heap.size, 0, none⟩ = some (.int .i64 sy0) := keepc hb' c4_a0_0
  clear c4_a0_0 ac4_a0_0
  have c5_a0_1 : w5.cell? ⟨w.heap.size, 1, none⟩ = some (.int .i64 st0) := keepc hb' c4_a0_1
  clear c4_a0_1 ac4_a0_1
  have c5_a0_2 : w5.cell? ⟨w.heap.size, 2, none⟩ = some (.slice A0 n0 c0) := keepc hb' c4_a0_2
  clear c4_a0_2 ac4_a0_2
  have c5_o18_0 : w5.cell? ⟨w3.heap.size, 0, none⟩ = some (.int .i64 RR.1.1) := keepc hb' c4_o18_0
  clear c4_o18_0 ac4_o18_0
  have c5_o18_1 : w5.cell? ⟨w3.heap.size, 1, none⟩ = some (.int .i64 RR.1.2.1) := keepc hb' c4_o18_1
  clear c4_o18_1 ac4_o18_1
  have c5_o18_2 : w5.cell? ⟨w3.heap.size, 2, none⟩ = some (.slice A13 n14 c15) := keepc hb' c4_o18_2
  clear c4_o18_2 ac4_o18_2
  have c5_o20_0 : w5.cell? ⟨w4.heap.size, 0, none⟩ = some (.int .i64 sy0) := keepc hb (by first | (simp; done) | (rw [World.cell?_alloc_past _ _ _ (by simp <;> omega)]; simp; done) | (rw [World.cell?_alloc_past _ _ _ (by simp <;> omega), World.cell?_alloc_past _ _ _ (by simp <;> omega)]; simp; done) | (rw [World.cell?_alloc_past _ _ _ (by simp <;> omega), World.cell?_alloc_past _ _ _ (by simp <;> omega), World.cell?_alloc_past _ _ _ (by simp <;> omega)]; simp; done) | (rw [World.cell?_alloc_at _ _ _ _ (by simp)]; simp; done) | (rw [World.cell?_alloc_past _ _ _ (by simp <;> omega), World.cell?_alloc_at _ _ _ _ (by simp)]; simp; done) | (rw [World.cell?_alloc_past _ _ _ (by simp <;> omega), World.cell?_alloc_past _ _ _ (by simp <;> omega), World.cell?_alloc_at _ _ _ _ (by simp)]; simp; done) | (rw [World.cell?_alloc_past _ _ _ (by simp <;> omega), World.cell?_alloc_past _ _ _ (by simp <;> omega), World.cell?_alloc_past _ _ _ (by simp <;> omega), World.cell?_alloc_at _ _ _ _ (by simp)]; simp; done))
  have hl_c5_o20_0 : w4.heap.size < w5.heap.size := World.block_lt_of_cell? w5 _ c5_o20_0
  have c5_o20_1 : w5.cell? ⟨w4.heap.size, 1, none⟩ = some (.int .i64 st0) := keepc hb (by first | (simp; done) | (rw [World.cell?_alloc_past _ _ _ (by simp <;> omega)]; simp; done) | (rw [World.cell?_alloc_past _ _ _ (by simp <;> omega), World.cell?_alloc_past _ _ _ (by simp <;> omega)]; simp; done) | (rw [World.cell?_alloc_past _ _ _ (by simp <;> omega), World.cell?_alloc_past _ _ _ (by simp <;> omega), World.cell?_alloc_past _ _ _ (by simp <;> omega)]; simp; done) | (rw [World.cell?_alloc_at _ _ _ _ (by simp)]; simp; done) | (rw [World.cell?_alloc_past _ _ _ (by simp <;> omega), World.cell?_alloc_at _ _ _ _ (by simp)]; simp; done) | (rw [World.cell?_alloc_past _ _ _ (by simp <;> omega), World.cell?_alloc_past _ _ _ (by simp <;> omega), World.cell?_alloc_at _ _ _ _ (by simp)]; simp; done) | (rw [World.cell?_alloc_past _ _ _ (by simp <;> omega), World.cell?_alloc_past _ _ _ (by simp <;> omega), World.cell?_alloc_past _ _ _ (by simp <;> omega), World.cell?_alloc_at _ _ _ _ (by simp)]; simp; done))
  have c5_o20_2 : w5.cell? ⟨w4.heap.size, 2, none⟩ = some (.slice (some ⟨g019, 0, none⟩) n0 n0) := keepc hb (by first | (simp; done) | (rw [World.cell?_alloc_past _ _ _ (by simp <;> omega)]; simp; done) | (rw [World.cell?_alloc_past _ _ _ (by simp <;> omega), World.cell?_alloc_past _ _ _ (by simp <;> omega)]; simp; done) | (rw [World.cell?_alloc_past _ _ _ (by simp <;> omega), World.cell?_alloc_past _ _ _ (by simp <;> omega), World.cell?_alloc_past _ _ _ (by simp <;> omega)]; simp; done) | (rw [World.cell?_alloc_at _ _ _ _ (by simp)]; simp; done) | (rw [World.cell?_alloc_past _ _ _ (by simp <;> omega), World.cell?_alloc_at _ _ _ _ (by simp)]; simp; done) | (rw [World.cell?_alloc_past _ _ _ (by simp <;> omega), World.cell?_alloc_past _ _ _ (by simp <;> omega), World.cell?_alloc_at _ _ _ _ (by simp)]; simp; done) | (rw [World.cell?_alloc_past _ _ _ (by simp <;> omega), World.cell?_alloc_past _ _ _ (by simp <;> omega), World.cell?_alloc_past _ _ _ (by simp <;> omega), World.cell?_alloc_at _ _ _ _ (by simp)]; simp; done))
  have ac5_a0_0 := fun o => keepa o c5_a0_0
  have ac5_a0_1 := fun o => keepa o c5_a0_1
  have ac5_a0_2 := fun o => keepa o c5_a0_2
  have ac5_o18_0 := fun o => keepa o c5_o18_0
  have ac5_o18_1 := fun o => keepa o c5_o18_1
  have ac5_o18_2 := fun o => keepa o c5_o18_2
  have ac5_o20_0 := fun o => keepa o c5_o20_0
  have ac5_o20_1 := fun o => keepa o c5_o20_1
  have ac5_o20_2 := fun o => keepa o c5_o20_2
  have rP0 := P0.out.below hb'; clear P0; have P0 := Lib.hid rP0; clear rP0
  have rFo12 := Fo12.out.below hb'; clear Fo12; have Fo12 := Lib.hid rFo12; clear rFo12
  have rFo18 := Fo18.out.below hb'; clear Fo18; have Fo18 := Lib.hid rFo18; clear rFo18
  have rFo20 := Fo20.out.below hb'; clear Fo20; have Fo20 := Lib.hid rFo20; clear rFo20
  have rB := below_chain B.out (by omega) hb'; clear B; have B := Lib.hid rB; clear rB
  have Fo26 := Lib.hid q24; clear q24
  clear hb hb'
  go_wp2_with fail
  refine (eqPartial_t _ _ _ _ _ _ _ _ _ _ (by exact ((Fo26.out.rd).alloc _)) (by exact ((Fo18.out.rd).alloc _)) (by omega)).mono ?_
  rintro e w6 ⟨rfl, hb⟩
  have hb' : Below w5.heap.size w5 w6 := (by first | (with_reducible exact hb) | (with_reducible exact up1 hb) | (with_reducible exact up2 hb) | (with_reducible exact up3 hb) | (with_reducible exact up4 hb) | (with_reducible exact below_of_drew hb) | (with_reducible exact below_of_drew (up1 hb)))
  have z6 := hb'.size
  have c6_a0_0 : w6.cell? ⟨w.heap.size, 0, none⟩ = some (.int .i64 sy0) := keepc hb' c5_a0_0
  clear c5_a0_0 ac5_a0_0
  have c6_a0_1 : w6.cell? ⟨w.heap.size, 1, none⟩ = some (.int .i64 st0) := keepc hb' c5_a0_1
  clear c5_a0_1 ac5_a0_1
  have c6_a0_2 : w6.cell? ⟨w.heap.size, 2, none⟩ = some (.slice A0 n0 c0) := keepc hb' c5_a0_2
  clear c5_a0_2 ac5_a0_2
  have c6_o18_0 : w6.cell? ⟨w3.heap.size, 0, none⟩ = some (.int .i64 RR.1.1) := keepc hb' c5_o18_0
  clear c5_o18_0 ac5_o18_0
  have c6_o18_1 : w6.cell? ⟨w3.heap.size, 1, none⟩ = some (.int .i64 RR.1.2.1) := keepc hb' c5_o18_1
  clear c5_o18_1 ac5_o18_1
  have c6_o18_2 : w6.cell? ⟨w3.heap.size, 2, none⟩ = some (.slice A13 n14 c15) := keepc hb' c5_o18_2
  clear c5_o18_2 ac5_o18_2
  have c6_o20_0 : w6.cell? ⟨w4.heap.size, 0, none⟩ = some (.int .i64 sy0) := keepc hb' c5_o20_0
  clear c5_o20_0 ac5_o20_0
  have c6_o20_1 : w6.cell? ⟨w4.heap.size, 1, none⟩ = some (.int .i64 st0) := keepc hb' c5_o20_1
  clear c5_o20_1 ac5_o20_1
  have c6_o20_2 : w6.cell? ⟨w4.heap.size, 2, none⟩ = some (.slice (some ⟨g019, 0, none⟩) n0 n0) := keepc hb' c5_o20_2
  clear c5_o20_2 ac5_o20_2
  have c6_o26_0 : w6.cell? ⟨w5.heap.size, 0, none⟩ = some (.int .i64 RR.1.1) := keepc hb (by first | (simp; done) | (rw [World.cell?_alloc_past _ _ _ (by simp <;> omega)]; simp; done) | (rw [World.cell?_alloc_past _ _ _ (by simp <;> omega), World.cell?_alloc_past _ _ _ (by simp <;> omega)]; simp; done) | (rw [World.cell?_alloc_past _ _ _ (by simp <;> omega), World.cell?_alloc_past _ _ _ (by simp <;> omega), World.cell?_alloc_past _ _ _ (by simp <;> omega)]; simp; done) | (rw [World.cell?_alloc_at _ _ _ _ (by simp)]; simp; done) | (rw [World.cell?_alloc_past _ _ _ (by simp <;> omega), World.cell?_alloc_at _ _ _ _ (by simp)]; simp; done) | (rw [World.cell?_alloc_past _ _ _ (by simp <;> omega), World.cell?_alloc_past _ _ _ (by simp <;> omega), World.cell?_alloc_at _ _ _ _ (by simp)]; simp; done) | (rw [World.cell?_alloc_past _ _ _ (by simp <;> omega), World.cell?_alloc_past _ _ _ (by simp <;> omega), World.cell?_alloc_past _ _ _ (by simp <;> omega), World.cell?_alloc_at _ _ _ _ (by simp)]; simp; done))
  have hl_c6_o26_0 : w5.heap.size < w6.heap.size := World.block_lt_of_cell? w6 _ c6_o26_0
  have c6_o26_1 : w6.cell? ⟨w5.heap.size, 1, none⟩ = some (.int .i64 RR.1.2.1) := keepc hb (by first | (simp; done) | (rw [World.cell?_alloc_past _ _ _ (by simp <;> omega)]; simp; done) | (rw [World.cell?_alloc_past _ _ _ (by simp <;> omega), World.cell?_alloc_past _ _ _ (by simp <;> omega)]; simp; done) | (rw [World.cell?_alloc_past _ _ _ (by simp <;> omega), World.cell?_alloc_past _ _ _ (by simp <;> omega), World.cell?_alloc_past _ _ _ (by simp <;> omega)]; simp; done) | (rw [World.cell?_alloc_at _ _ _ _ (by simp)]; simp; done) | (rw [World.cell?_alloc_past _ _ _ (by simp <;> omega), World.cell?_alloc_at _ _ _ _ (by simp)]; simp; done) | (rw [World.cell?_alloc_past _ _ _ (by simp <;> omega), World.cell?_alloc_past _ _ _ (by simp <;> omega), World.cell?_alloc_at _ _ _ _ (by simp)]; simp; done) | (rw [World.cell?_alloc_past _ _ _ (by simp <;> omega), World.cell?_alloc_past _ _ _ (by simp <;> omega), World.cell?_alloc_past _ _ _ (by simp <;> omega), World.cell?_alloc_at _ _ _ _ (by simp)]; simp; done))
  have c6_o26_2 : w6.cell? ⟨w5.heap.size, 2, none⟩ = some (.slice A21 n22 c23) := keepc hb (by first | (simp; done) | (rw [World.cell?_alloc_past _ _ _ (by simp <;> omega)]; simp; done) | (rw [World.cell?_alloc_past _ _ _ (by simp <;> omega), World.cell?_alloc_past _ _ _ (by simp <;> omega)]; simp; done) | (rw [World.cell?_alloc_past _ _ _ (by simp <;> omega), World.cell?_alloc_past _ _ _ (by simp <;> omega), World.cell?_alloc_past _ _ _ (by simp <;> omega)]; simp; done) | (rw [World.cell?_alloc_at _ _ _ _ (by simp)]; simp; done) | (rw [World.cell?_alloc_past _ _ _ (by simp <;> omega), World.cell?_alloc_at _ _ _ _ (by simp)]; simp; done) | (rw [World.cell?_alloc_past _ _ _ (by simp <;> omega), World.cell?_alloc_past _ _ _ (by simp <;> omega), World.cell?_alloc_at _ _ _ _ (by simp)]; simp; done) | (rw [World.cell?_alloc_past _ _ _ (by simp <;> omega), World.cell?_alloc_past _ _ _ (by simp <;> omega), World.cell?_alloc_past _ _ _ (by simp <;> omega), World.cell?_alloc_at _ _ _ _ (by simp)]; simp; done))
  have ac6_a0_0 := fun o => keepa o c6_a0_0
  have ac6_a0_1 := fun o => keepa o c6_a0_1
  have ac6_a0_2 := fun o => keepa o c6_a0_2
  have ac6_o18_0 := fun o => keepa o c6_o18_0
  have ac6_o18_1 := fun o => keepa o c6_o18_1
  have ac6_o18_2 := fun o => keepa o c6_o18_2
  have ac6_o20_0 := fun o => keepa o c6_o20_0
  have ac6_o20_1 := fun o => keepa o c6_o20_1
  have ac6_o20_2 := fun o => keepa o c6_o20_2
  have ac6_o26_0 := fun o => keepa o c6_o26_0
  have ac6_o26_1 := fun o => keepa o c6_o26_1
  have ac6_o26_2 := fun o => keepa o c6_o26_2
  have rP0 := P0.out.below hb'; clear P0; have P0 := Lib.hid rP0; clear rP0
  have rFo12 := Fo12.out.below hb'; clear Fo12; have Fo12 := Lib.hid rFo12; clear rFo12
  have rFo18 := Fo18.out.below hb'; clear Fo18; have Fo18 := Lib.hid rFo18; clear rFo18
  have rFo20 := Fo20.out.below hb'; clear Fo20; have Fo20 := Lib.hid rFo20; clear rFo20
  have rFo26 := Fo26.out.below hb'; clear Fo26; have Fo26 := Lib.hid rFo26; clear rFo26
  have rB := below_chain B.out (by omega) hb'; clear B; have B := Lib.hid rB; clear rB
  clear hb hb'
  go_wp2_with fail
  have fx_c6_a0_0 := Ext.cell c6_a0_0
  have fx_c6_a0_1 := Ext.cell c6_a0_1
  have fx_c6_a0_2 := Ext.cell c6_a0_2
  have fx_c6_o18_0 := Ext.cell c6_o18_0
  have fx_c6_o18_1 := Ext.cell c6_o18_1
  have fx_c6_o18_2 := Ext.cell c6_o18_2
  have fx_c6_o20_0 := Ext.cell c6_o20_0
  have fx_c6_o20_1 := Ext.cell c6_o20_1
  have fx_c6_o20_2 := Ext.cell c6_o20_2
  have fx_c6_o26_0 := Ext.cell c6_o26_0
  have fx_c6_o26_1 := Ext.cell c6_o26_1
  have fx_c6_o26_2 := Ext.cell c6_o26_2
  refine Mix.wp_region_mix [3, 3, 1, 1, 0] (fun w' => ∃ x : Ext w6, w' = x.w) (by kernel_rfl) (by kernel_rfl) (InExt.drew _) ?_
  repeat (first | (refine Mix.wpMix_read (by rfl) ?_; go_big_quiet_step (fail); refine wpQuiet_nil ?_) | (refine Mix.wpMix_pure (by rfl) ?_; go_big_quiet_step (fail); refine wpQuiet_nil ?_))
  refine Mix.wpMix_chg (by rfl) (fun K hK => ?_)
  go_wp2_with fail
  refine (toMachine_c _ _ _ _ _ _ _ (by exact (P0.out.rd)) (by omega)).mono ?_
  rintro e w7 ⟨g027, rfl, q7, hb⟩
  have hb' : Below w6.heap.size w6 w7 := (by first | (with_reducible exact hb) | (with_reducible exact up1 hb) | (with_reducible exact up2 hb) | (with_reducible exact up3 hb) | (with_reducible exact up4 hb) | (with_reducible exact below_of_drew hb) | (with_reducible exact below_of_drew (up1 hb)))
  have z7 := hb'.size
  have c7_a0_0 : w7.cell? ⟨w.heap.size, 0, none⟩ = some (.int .i64 sy0) := keepc hb' c6_a0_0
  clear c6_a0_0 ac6_a0_0
  have c7_a0_1 : w7.cell? ⟨w.heap.size, 1, none⟩ = some (.int .i64 st0) := keepc hb' c6_a0_1
  clear c6_a0_1 ac6_a0_1
  have c7_a0_2 : w7.cell? ⟨w.heap.size, 2, none⟩ = some (.slice A0 n0 c0) := keepc hb' c6_a0_2
  clear c6_a0_2 ac6_a0_2
  have c7_o18_0 : w7.cell? ⟨w3.heap.size, 0, none⟩ = some (.int .i64 RR.1.1) := keepc hb' c6_o18_0
  clear c6_o18_0 ac6_o18_0
  have c7_o18_1 : w7.cell? ⟨w3.heap.size, 1, none⟩ = some (.int .i64 RR.1.2.1) := keepc hb' c6_o18_1
  clear c6_o18_1 ac6_o18_1
  have c7_o18_2 : w7.cell? ⟨w3.heap.size, 2, none⟩ = some (.slice A13 n14 c15) := keepc hb' c6_o18_2
  clear c6_o18_2 ac6_o18_2
  have c7_o20_0 : w7.cell? ⟨w4.heap.size, 0, none⟩ = some (.int .i64 sy0) := keepc hb' c6_o20_0
  clear c6_o20_0 ac6_o20_0
  have c7_o20_1 : w7.cell? ⟨w4.heap.size, 1, none⟩ = some (.int .i64 st0) := keepc hb' c6_o20_1
  clear c6_o20_1 ac6_o20_1
  have c7_o20_2 : w7.cell? ⟨w4.heap.size, 2, none⟩ = some (.slice (some ⟨g019, 0, none⟩) n0 n0) := keepc hb' c6_o20_2
  clear c6_o20_2 ac6_o20_2
  have c7_o26_0 : w7.cell? ⟨w5.heap.size, 0, none⟩ = some (.int .i64 RR.1.1) := keepc hb' c6_o26_0
  clear c6_o26_0 ac6_o26_0
  have c7_o26_1 : w7.cell? ⟨w5.heap.size, 1, none⟩ = some (.int .i64 RR.1.2.1) := keepc hb' c6_o26_1
  clear c6_o26_1 ac6_o26_1
  have c7_o26_2 : w7.cell? ⟨w5.heap.size, 2, none⟩ = some (.slice A21 n22 c23) := keepc hb' c6_o26_2
  clear c6_o26_2 ac6_o26_2
  have ac7_a0_0 := fun o => keepa o c7_a0_0
  have ac7_a0_1 := fun o => keepa o c7_a0_1
  have ac7_a0_2 := fun o => keepa o c7_a0_2
  have ac7_o18_0 := fun o => keepa o c7_o18_0
  have ac7_o18_1 := fun o => keepa o c7_o18_1
  have ac7_o18_2 := fun o => keepa o c7_o18_2
  have ac7_o20_0 := fun o => keepa o c7_o20_0
  have ac7_o20_1 := fun o => keepa o c7_o20_1
  have ac7_o20_2 := fun o => keepa o c7_o20_2
  have ac7_o26_0 := fun o => keepa o c7_o26_0
  have ac7_o26_1 := fun o => keepa o c7_o26_1
  have ac7_o26_2 := fun o => keepa o c7_o26_2
  have rP0 := P0.out.below hb'; clear P0; have P0 := Lib.hid rP0; clear rP0
  have rFo12 := Fo12.out.below hb'; clear Fo12; have Fo12 := Lib.hid rFo12; clear rFo12
  have rFo18 := Fo18.out.below hb'; clear Fo18; have Fo18 := Lib.hid rFo18; clear rFo18
  have rFo20 := Fo20.out.below hb'; clear Fo20; have Fo20 := Lib.hid rFo20; clear rFo20
  have rFo26 := Fo26.out.below hb'; clear Fo26; have Fo26 := Lib.hid rFo26; clear rFo26
  have rB := below_chain B.out (by omega) hb'; clear B; have B := Lib.hid rB; clear rB
  have Fo28 := Lib.hid q7; clear q7
  have em7 : Below w6.heap.size w6 w7 := hb'
  clear hb hb'
  go_wp2_with fail
  refine hK _ _ ⟨⟨_, em7⟩, rfl⟩ ?_
  clear hK K
  refine Mix.wpMix_chg (by rfl) (fun K hK => ?_)
  go_wp2_with fail
  refine (eqMachine_t _ _ _ _ _ _ _ _ _ _ (by exact (Fo20.out.rd)) (by exact (Fo28.out.rd)) (by omega)).mono ?_
  rintro e w8 ⟨rfl, hb⟩
  have hb' : Below w7.heap.size w7 w8 := (by first | (with_reducible exact hb) | (with_reducible exact up1 hb) | (with_reducible exact up2 hb) | (with_reducible exact up3 hb) | (with_reducible exact up4 hb) | (with_reducible exact below_of_drew hb) | (with_reducible exact below_of_drew (up1 hb)))
  have z8 := hb'.size
  have c8_a0_0 : w8.cell? ⟨w.heap.size, 0, none⟩ = some (.int .i64 sy0) := keepc hb' c7_a0_0
  clear c7_a0_0 ac7_a0_0
  have c8_a0_1 : w8.cell? ⟨w.heap.size, 1, none⟩ = some (.int .i64 st0) := keepc hb' c7_a0_1
  clear c7_a0_1 ac7_a0_1
  have c8_a0_2 : w8.cell? ⟨w.heap.size, 2, none⟩ = some (.slice A0 n0 c0) := keepc hb' c7_a0_2
  clear c7_a0_2 ac7_a0_2
  have c8_o18_0 : w8.cell? ⟨w3.heap.size, 0, none⟩ = some (.int .i64 RR.1.1) := keepc hb' c7_o18_0
  clear c7_o18_0 ac7_o18_0
  have c8_o18_1 : w8.cell? ⟨w3.heap.size, 1, none⟩ = some (.int .i64 RR.1.2.1) := keepc hb' c7_o18_1
  clear c7_o18_1 ac7_o18_1
  have c8_o18_2 : w8.cell? ⟨w3.heap.size, 2, none⟩ = some (.slice A13 n14 c15) := keepc hb' c7_o18_2
  clear c7_o18_2 ac7_o18_2
  have c8_o20_0 : w8.cell? ⟨w4.heap.size, 0, none⟩ = some (.int .i64 sy0) := keepc hb' c7_o20_0
  clear c7_o20_0 ac7_o20_0
  have c8_o20_1 : w8.cell? ⟨w4.heap.size, 1, none⟩ = some (.int .i64 st0) := keepc hb' c7_o20_1
  clear c7_o20_1 ac7_o20_1
  have c8_o20_2 : w8.cell? ⟨w4.heap.size, 2, none⟩ = some (.slice (some ⟨g019, 0, none⟩) n0 n0) := keepc hb' c7_o20_2
  clear c7_o20_2 ac7_o20_2
  have c8_o26_0 : w8.cell? ⟨w5.heap.size, 0, none⟩ = some (.int .i64 RR.1.1) := keepc hb' c7_o26_0
  clear c7_o26_0 ac7_o26_0
  have c8_o26_1 : w8.cell? ⟨w5.heap.size, 1, none⟩ = some (.int .i64 RR.1.2.1) := keepc hb' c7_o26_1
  clear c7_o26_1 ac7_o26_1
  have c8_o26_2 : w8.cell? ⟨w5.heap.size, 2, none⟩ = some (.slice A21 n22 c23) := keepc hb' c7_o26_2
  clear c7_o26_2 ac7_o26_2
  have ac8_a0_0 := fun o => keepa o c8_a0_0
  have ac8_a0_1 := fun o => keepa o c8_a0_1
  have ac8_a0_2 := fun o => keepa o c8_a0_2
  have ac8_o18_0 := fun o => keepa o c8_o18_0
  have ac8_o18_1 := fun o => keepa o c8_o18_1
  have ac8_o18_2 := fun o => keepa o c8_o18_2
  have ac8_o20_0 := fun o => keepa o c8_o20_0
  have ac8_o20_1 := fun o => keepa o c8_o20_1
  have ac8_o20_2 := fun o => keepa o c8_o20_2
  have ac8_o26_0 := fun o => keepa o c8_o26_0
  have ac8_o26_1 := fun o => keepa o c8_o26_1
  have ac8_o26_2 := fun o => keepa o c8_o26_2
  have rP0 := P0.out.below hb'; clear P0; have P0 := Lib.hid rP0; clear rP0
  have rFo12 := Fo12.out.below hb'; clear Fo12; have Fo12 := Lib.hid rFo12; clear rFo12
  have rFo18 := Fo18.out.below hb'; clear Fo18; have Fo18 := Lib.hid rFo18; clear rFo18
  have rFo20 := Fo20.out.below hb'; clear Fo20; have Fo20 := Lib.hid rFo20; clear rFo20
  have rFo26 := Fo26.out.below hb'; clear Fo26; have Fo26 := Lib.hid rFo26; clear rFo26
  have rFo28 := Fo28.out.below hb'; clear Fo28; have Fo28 := Lib.hid rFo28; clear rFo28
  have rB := below_chain B.out (by omega) hb'; clear B; have B := Lib.hid rB; clear rB
  have em8 : Below w6.heap.size w6 w8 := below_chain em7 (by omega) hb'
  clear hb hb'
  go_wp2_with fail
  refine hK _ _ ⟨⟨_, em8⟩, rfl⟩ ?_
  clear hK K
  repeat (first | (refine Mix.wpMix_read (by rfl) ?_; go_big_quiet_step (fail); refine wpQuiet_nil ?_) | (refine Mix.wpMix_pure (by rfl) ?_; go_big_quiet_step (fail); refine wpQuiet_nil ?_))
  (refine Mix.wpMix_nil ?_; try simp only [Exit.then])
  clear fx_c6_a0_0
  clear fx_c6_a0_1
  clear fx_c6_a0_2
  clear fx_c6_o18_0
  clear fx_c6_o18_1
  clear fx_c6_o18_2
  clear fx_c6_o20_0
  clear fx_c6_o20_1
  clear fx_c6_o20_2
  clear fx_c6_o26_0
  clear fx_c6_o26_1
  clear fx_c6_o26_2
  clear Fo28
  go_wp2_with fail
  refine (markMachine_c _ _ _ _ _ _ _ _ _ _ (by exact (Fo20.out)) (by omega) (by omega) (by omega)).mono ?_
  rintro e w9 ⟨rfl, q9, hk⟩
  have hk' : KeepR (w3.heap.size + 1) w4.heap.size w8 w9 := (by first | (with_reducible exact hk) | (with_reducible exact hk.up1) | (with_reducible exact hk.up1.up1))
  have z9 := hk'.size
  have c9_a0_0 : w9.cell? ⟨w.heap.size, 0, none⟩ = some (.int .i64 sy0) := hk'.cell (by simp <;> omega) c8_a0_0
  clear c8_a0_0 ac8_a0_0
  have c9_a0_1 : w9.cell? ⟨w.heap.size, 1, none⟩ = some (.int .i64 st0) := hk'.cell (by simp <;> omega) c8_a0_1
  clear c8_a0_1 ac8_a0_1
  have c9_a0_2 : w9.cell? ⟨w.heap.size, 2, none⟩ = some (.slice A0 n0 c0) := hk'.cell (by simp <;> omega) c8_a0_2
  clear c8_a0_2 ac8_a0_2
  have c9_o18_0 : w9.cell? ⟨w3.heap.size, 0, none⟩ = some (.int .i64 RR.1.1) := hk'.cell (by simp <;> omega) c8_o18_0
  clear c8_o18_0 ac8_o18_0
  have c9_o18_1 : w9.cell? ⟨w3.heap.size, 1, none⟩ = some (.int .i64 RR.1.2.1) := hk'.cell (by simp <;> omega) c8_o18_1
  clear c8_o18_1 ac8_o18_1
  have c9_o18_2 : w9.cell? ⟨w3.heap.size, 2, none⟩ = some (.slice A13 n14 c15) := hk'.cell (by simp <;> omega) c8_o18_2
  clear c8_o18_2 ac8_o18_2
  have c9_o20_0 : w9.cell? ⟨w4.heap.size, 0, none⟩ = some (.int .i64 sy0) := hk'.cell (by simp <;> omega) c8_o20_0
  clear c8_o20_0 ac8_o20_0
  have c9_o20_1 : w9.cell? ⟨w4.heap.size, 1, none⟩ = some (.int .i64 st0) := hk'.cell (by simp <;> omega) c8_o20_1
  clear c8_o20_1 ac8_o20_1
  have c9_o20_2 : w9.cell? ⟨w4.heap.size, 2, none⟩ = some (.slice (some ⟨g019, 0, none⟩) n0 n0) := hk'.cell (by simp <;> omega) c8_o20_2
  clear c8_o20_2 ac8_o20_2
  have c9_o26_0 : w9.cell? ⟨w5.heap.size, 0, none⟩ = some (.int .i64 RR.1.1) := hk'.cell (by simp <;> omega) c8_o26_0
  clear c8_o26_0 ac8_o26_0
  have c9_o26_1 : w9.cell? ⟨w5.heap.size, 1, none⟩ = some (.int .i64 RR.1.2.1) := hk'.cell (by simp <;> omega) c8_o26_1
  clear c8_o26_1 ac8_o26_1
  have c9_o26_2 : w9.cell? ⟨w5.heap.size, 2, none⟩ = some (.slice A21 n22 c23) := hk'.cell (by simp <;> omega) c8_o26_2
  clear c8_o26_2 ac8_o26_2
  have ac9_a0_0 := fun o => keepa o c9_a0_0
  have ac9_a0_1 := fun o => keepa o c9_a0_1
  have ac9_a0_2 := fun o => keepa o c9_a0_2
  have ac9_o18_0 := fun o => keepa o c9_o18_0
  have ac9_o18_1 := fun o => keepa o c9_o18_1
  have ac9_o18_2 := fun o => keepa o c9_o18_2
  have ac9_o20_0 := fun o => keepa o c9_o20_0
  have ac9_o20_1 := fun o => keepa o c9_o20_1
  have ac9_o20_2 := fun o => keepa o c9_o20_2
  have ac9_o26_0 := fun o => keepa o c9_o26_0
  have ac9_o26_1 := fun o => keepa o c9_o26_1
  have ac9_o26_2 := fun o => keepa o c9_o26_2
  have rP0 := P0.out.keep hk' (by omega); clear P0; have P0 := Lib.hid rP0; clear rP0
  have rFo12 := Fo12.out.keep hk' (by omega); clear Fo12; have Fo12 := Lib.hid rFo12; clear rFo12
  have rFo18 := Fo18.out.keep hk' (by omega); clear Fo18; have Fo18 := Lib.hid rFo18; clear rFo18
  have rFo20 := q9; clear Fo20; have Fo20 := Lib.hid rFo20; clear rFo20 q9
  have rFo26 := Fo26.out.keep hk' (by omega); clear Fo26; have Fo26 := Lib.hid rFo26; clear rFo26
  have rB := B.out.trans (hk'.below (B := w.heap.size) (by omega) (by omega)); clear B; have B := Lib.hid rB; clear rB
  clear hk hk'
  go_wp2_with fail
  refine (eqPartial_t _ _ _ _ _ _ _ _ _ _ (by exact (Fo26.out.rd)) (by exact (Fo18.out.rd)) (by omega)).mono ?_
  rintro e w10 ⟨rfl, hb⟩
  have hb' : Below w9.heap.size w9 w10 := (by first | (with_reducible exact hb) | (with_reducible exact up1 hb) | (with_reducible exact up2 hb) | (with_reducible exact up3 hb) | (with_reducible exact up4 hb) | (with_reducible exact below_of_drew hb) | (with_reducible exact below_of_drew (up1 hb)))
  have z10 := hb'.size
  have c10_a0_0 : w10.cell? ⟨w.heap.size, 0, none⟩ = some (.int .i64 sy0) := keepc hb' c9_a0_0
  clear c9_a0_0 ac9_a0_0
  have c10_a0_1 : w10.cell? ⟨w.heap.size, 1, none⟩ = some (.int .i64 st0) := keepc hb' c9_a0_1
  clear c9_a0_1 ac9_a0_1
  have c10_a0_2 : w10.cell? ⟨w.heap.size, 2, none⟩ = some (.slice A0 n0 c0) := keepc hb' c9_a0_2
  clear c9_a0_2 ac9_a0_2
  have c10_o18_0 : w10.cell? ⟨w3.heap.size, 0, none⟩ = some (.int .i64 RR.1.1) := keepc hb' c9_o18_0
  clear c9_o18_0 ac9_o18_0
  have c10_o18_1 : w10.cell? ⟨w3.heap.size, 1, none⟩ = some (.int .i64 RR.1.2.1) := keepc hb' c9_o18_1
  clear c9_o18_1 ac9_o18_1
  have c10_o18_2 : w10.cell? ⟨w3.heap.size, 2, none⟩ = some (.slice A13 n14 c15) := keepc hb' c9_o18_2
  clear c9_o18_2 ac9_o18_2
  have c10_o20_0 : w10.cell? ⟨w4.heap.size, 0, none⟩ = some (.int .i64 sy0) := keepc hb' c9_o20_0
  clear c9_o20_0 ac9_o20_0
  have c10_o20_1 : w10.cell? ⟨w4.heap.size, 1, none⟩ = some (.int .i64 st0) := keepc hb' c9_o20_1
  clear c9_o20_1 ac9_o20_1
  have c10_o20_2 : w10.cell? ⟨w4.heap.size, 2, none⟩ = some (.slice (some ⟨g019, 0, none⟩) n0 n0) := keepc hb' c9_o20_2
  clear c9_o20_2 ac9_o20_2
  have c10_o26_0 : w10.cell? ⟨w5.heap.size, 0, none⟩ = some (.int .i64 RR.1.1) := keepc hb' c9_o26_0
  clear c9_o26_0 ac9_o26_0
  have c10_o26_1 : w10.cell? ⟨w5.heap.size, 1, none⟩ = some (.int .i64 RR.1.2.1) := keepc hb' c9_o26_1
  clear c9_o26_1 ac9_o26_1
  have c10_o26_2 : w10.cell? ⟨w5.heap.size, 2, none⟩ = some (.slice A21 n22 c23) := keepc hb' c9_o26_2
  clear c9_o26_2 ac9_o26_2
  have ac10_a0_0 := fun o => keepa o c10_a0_0
  have ac10_a0_1 := fun o => keepa o c10_a0_1
  have ac10_a0_2 := fun o => keepa o c10_a0_2
  have ac10_o18_0 := fun o => keepa o c10_o18_0
  have ac10_o18_1 := fun o => keepa o c10_o18_1
  have ac10_o18_2 := fun o => keepa o c10_o18_2
  have ac10_o20_0 := fun o => keepa o c10_o20_0
  have ac10_o20_1 := fun o => keepa o c10_o20_1
  have ac10_o20_2 := fun o => keepa o c10_o20_2
  have ac10_o26_0 := fun o => keepa o c10_o26_0
  have ac10_o26_1 := fun o => keepa o c10_o26_1
  have ac10_o26_2 := fun o => keepa o c10_o26_2
  have rP0 := P0.out.below hb'; clear P0; have P0 := Lib.hid rP0; clear rP0
  have rFo12 := Fo12.out.below hb'; clear Fo12; have Fo12 := Lib.hid rFo12; clear rFo12
  have rFo18 := Fo18.out.below hb'; clear Fo18; have Fo18 := Lib.hid rFo18; clear rFo18
  have rFo20 := Fo20.out.below hb'; clear Fo20; have Fo20 := Lib.hid rFo20; clear rFo20
  have rFo26 := Fo26.out.below hb'; clear Fo26; have Fo26 := Lib.hid rFo26; clear rFo26
  have rB := below_chain B.out (by omega) hb'; clear B; have B := Lib.hid rB; clear rB
  clear hb hb'
  go_wp2_with fail
  refine (markPartial_c _ _ _ _ _ _ _ _ _ _ (by exact (Fo26.out)) (by omega) (by omega) (by omega)).mono ?_
  rintro e w11 ⟨rfl, q11, hk⟩
  have hk' : KeepR (w4.heap.size + 1) w5.heap.size w10 w11 := (by first | (with_reducible exact hk) | (with_reducible exact hk.up1) | (with_reducible exact hk.up1.up1))
  have z11 := hk'.size
  have c11_a0_0 : w11.cell? ⟨w.heap.size, 0, none⟩ = some (.int .i64 sy0) := hk'.cell (by simp <;> omega) c10_a0_0
  clear c10_a0_0 ac10_a0_0
  have c11_a0_1 : w11.cell? ⟨w.heap.size, 1, none⟩ = some (.int .i64 st0) := hk'.cell (by simp <;> omega) c10_a0_1
  clear c10_a0_1 ac10_a0_1
  have c11_a0_2 : w11.cell? ⟨w.heap.size, 2, none⟩ = some (.slice A0 n0 c0) := hk'.cell (by simp <;> omega) c10_a0_2
  clear c10_a0_2 ac10_a0_2
  have c11_o18_0 : w11.cell? ⟨w3.heap.size, 0, none⟩ = some (.int .i64 RR.1.1) := hk'.cell (by simp <;> omega) c10_o18_0
  clear c10_o18_0 ac10_o18_0
  have c11_o18_1 : w11.cell? ⟨w3.heap.size, 1, none⟩ = some (.int .i64 RR.1.2.1) := hk'.cell (by simp <;> omega) c10_o18_1
  clear c10_o18_1 ac10_o18_1
  have c11_o18_2 : w11.cell? ⟨w3.heap.size, 2, none⟩ = some (.slice A13 n14 c15) := hk'.cell (by simp <;> omega) c10_o18_2
  clear c10_o18_2 ac10_o18_2
  have c11_o20_0 : w11.cell? ⟨w4.heap.size, 0, none⟩ = some (.int .i64 sy0) := hk'.cell (by simp <;> omega) c10_o20_0
  clear c10_o20_0 ac10_o20_0
  have c11_o20_1 : w11.cell? ⟨w4.heap.size, 1, none⟩ = some (.int .i64 st0) := hk'.cell (by simp <;> omega) c10_o20_1
  clear c10_o20_1 ac10_o20_1
  have c11_o20_2 : w11.cell? ⟨w4.heap.size, 2, none⟩ = some (.slice (some ⟨g019, 0, none⟩) n0 n0) := hk'.cell (by simp <;> omega) c10_o20_2
  clear c10_o20_2 ac10_o20_2
  have c11_o26_0 : w11.cell? ⟨w5.heap.size, 0, none⟩ = some (.int .i64 RR.1.1) := hk'.cell (by simp <;> omega) c10_o26_0
  clear c10_o26_0 ac10_o26_0
  have c11_o26_1 : w11.cell? ⟨w5.heap.size, 1, none⟩ = some (.int .i64 RR.1.2.1) := hk'.cell (by simp <;> omega) c10_o26_1
  clear c10_o26_1 ac10_o26_1
  have c11_o26_2 : w11.cell? ⟨w5.heap.size, 2, none⟩ = some (.slice A21 n22 c23) := hk'.cell (by simp <;> omega) c10_o26_2
  clear c10_o26_2 ac10_o26_2
  have ac11_a0_0 := fun o => keepa o c11_a0_0
  have ac11_a0_1 := fun o => keepa o c11_a0_1
  have ac11_a0_2 := fun o => keepa o c11_a0_2
  have ac11_o18_0 := fun o => keepa o c11_o18_0
  have ac11_o18_1 := fun o => keepa o c11_o18_1
  have ac11_o18_2 := fun o => keepa o c11_o18_2
  have ac11_o20_0 := fun o => keepa o c11_o20_0
  have ac11_o20_1 := fun o => keepa o c11_o20_1
  have ac11_o20_2 := fun o => keepa o c11_o20_2
  have ac11_o26_0 := fun o => keepa o c11_o26_0
  have ac11_o26_1 := fun o => keepa o c11_o26_1
  have ac11_o26_2 := fun o => keepa o c11_o26_2
  have rP0 := P0.out.keep hk' (by omega); clear P0; have P0 := Lib.hid rP0; clear rP0
  have rFo12 := Fo12.out.keep hk' (by omega); clear Fo12; have Fo12 := Lib.hid rFo12; clear rFo12
  have rFo18 := Fo18.out.keep hk' (by omega); clear Fo18; have Fo18 := Lib.hid rFo18; clear rFo18
  have rFo20 := Fo20.out.keep hk' (by omega); clear Fo20; have Fo20 := Lib.hid rFo20; clear rFo20
  have rFo26 := q11; clear Fo26; have Fo26 := Lib.hid rFo26; clear rFo26 q11
  have rB := B.out.trans (hk'.below (B := w.heap.size) (by omega) (by omega)); clear B; have B := Lib.hid rB; clear rB
  clear hk hk'
  go_wp2_with fail
  refine (heldPartial_c _ _ _ _ _ _ _ _ (by exact (Fo26.out.rd)) (by omega) (by omega) (by omega)).mono ?_
  rintro e w12 ⟨rfl, hb⟩
  have hb' : Below w11.heap.size w11 w12 := (by first | (with_reducible exact hb) | (with_reducible exact up1 hb) | (with_reducible exact up2 hb) | (with_reducible exact up3 hb) | (with_reducible exact up4 hb) | (with_reducible exact below_of_drew hb) | (with_reducible exact below_of_drew (up1 hb)))
  have z12 := hb'.size
  have c12_a0_0 : w12.cell? ⟨w.heap.size, 0, none⟩ = some (.int .i64 sy0) := keepc hb' c11_a0_0
  clear c11_a0_0 ac11_a0_0
  have c12_a0_1 : w12.cell? ⟨w.heap.size, 1, none⟩ = some (.int .i64 st0) := keepc hb' c11_a0_1
  clear c11_a0_1 ac11_a0_1
  have c12_a0_2 : w12.cell? ⟨w.heap.size, 2, none⟩ = some (.slice A0 n0 c0) := keepc hb' c11_a0_2
  clear c11_a0_2 ac11_a0_2
  have c12_o18_0 : w12.cell? ⟨w3.heap.size, 0, none⟩ = some (.int .i64 RR.1.1) := keepc hb' c11_o18_0
  clear c11_o18_0 ac11_o18_0
  have c12_o18_1 : w12.cell? ⟨w3.heap.size, 1, none⟩ = some (.int .i64 RR.1.2.1) := keepc hb' c11_o18_1
  clear c11_o18_1 ac11_o18_1
  have c12_o18_2 : w12.cell? ⟨w3.heap.size, 2, none⟩ = some (.slice A13 n14 c15) := keepc hb' c11_o18_2
  clear c11_o18_2 ac11_o18_2
  have c12_o20_0 : w12.cell? ⟨w4.heap.size, 0, none⟩ = some (.int .i64 sy0) := keepc hb' c11_o20_0
  clear c11_o20_0 ac11_o20_0
  have c12_o20_1 : w12.cell? ⟨w4.heap.size, 1, none⟩ = some (.int .i64 st0) := keepc hb' c11_o20_1
  clear c11_o20_1 ac11_o20_1
  have c12_o20_2 : w12.cell? ⟨w4.heap.size, 2, none⟩ = some (.slice (some ⟨g019, 0, none⟩) n0 n0) := keepc hb' c11_o20_2
  clear c11_o20_2 ac11_o20_2
  have c12_o26_0 : w12.cell? ⟨w5.heap.size, 0, none⟩ = some (.int .i64 RR.1.1) := keepc hb' c11_o26_0
  clear c11_o26_0 ac11_o26_0
  have c12_o26_1 : w12.cell? ⟨w5.heap.size, 1, none⟩ = some (.int .i64 RR.1.2.1) := keepc hb' c11_o26_1
  clear c11_o26_1 ac11_o26_1
  have c12_o26_2 : w12.cell? ⟨w5.heap.size, 2, none⟩ = some (.slice A21 n22 c23) := keepc hb' c11_o26_2
  clear c11_o26_2 ac11_o26_2
  have ac12_a0_0 := fun o => keepa o c12_a0_0
  have ac12_a0_1 := fun o => keepa o c12_a0_1
  have ac12_a0_2 := fun o => keepa o c12_a0_2
  have ac12_o18_0 := fun o => keepa o c12_o18_0
  have ac12_o18_1 := fun o => keepa o c12_o18_1
  have ac12_o18_2 := fun o => keepa o c12_o18_2
  have ac12_o20_0 := fun o => keepa o c12_o20_0
  have ac12_o20_1 := fun o => keepa o c12_o20_1
  have ac12_o20_2 := fun o => keepa o c12_o20_2
  have ac12_o26_0 := fun o => keepa o c12_o26_0
  have ac12_o26_1 := fun o => keepa o c12_o26_1
  have ac12_o26_2 := fun o => keepa o c12_o26_2
  have rP0 := P0.out.below hb'; clear P0; have P0 := Lib.hid rP0; clear rP0
  have rFo12 := Fo12.out.below hb'; clear Fo12; have Fo12 := Lib.hid rFo12; clear rFo12
  have rFo18 := Fo18.out.below hb'; clear Fo18; have Fo18 := Lib.hid rFo18; clear rFo18
  have rFo20 := Fo20.out.below hb'; clear Fo20; have Fo20 := Lib.hid rFo20; clear rFo20
  have rFo26 := Fo26.out.below hb'; clear Fo26; have Fo26 := Lib.hid rFo26; clear rFo26
  have rB := below_chain B.out (by omega) hb'; clear B; have B := Lib.hid rB; clear rB
  clear hb hb'
  go_wp2_with fail
  refine (toMachine_c _ _ _ _ _ _ _ (by exact (P0.out.rd)) (by omega)).mono ?_
  rintro e w13 ⟨g029, rfl, q13, hb⟩
  have hb' : Below w12.heap.size w12 w13 := (by first | (with_reducible exact hb) | (with_reducible exact up1 hb) | (with_reducible exact up2 hb) | (with_reducible exact up3 hb) | (with_reducible exact up4 hb) | (with_reducible exact below_of_drew hb) | (with_reducible exact below_of_drew (up1 hb)))
  have z13 := hb'.size
  have c13_a0_0 : w13.cell? ⟨w.heap.size, 0, none⟩ = some (.int .i64 sy0) := keepc hb' c12_a0_0
  clear c12_a0_0 ac12_a0_0
  have c13_a0_1 : w13.cell? ⟨w.heap.size, 1, none⟩ = some (.int .i64 st0) := keepc hb' c12_a0_1
  clear c12_a0_1 ac12_a0_1
  have c13_a0_2 : w13.cell? ⟨w.heap.size, 2, none⟩ = some (.slice A0 n0 c0) := keepc hb' c12_a0_2
  clear c12_a0_2 ac12_a0_2
  have c13_o18_0 : w13.cell? ⟨w3.heap.size, 0, none⟩ = some (.int .i64 RR.1.1) := keepc hb' c12_o18_0
  clear c12_o18_0 ac12_o18_0
  have c13_o18_1 : w13.cell? ⟨w3.heap.size, 1, none⟩ = some (.int .i64 RR.1.2.1) := keepc hb' c12_o18_1
  clear c12_o18_1 ac12_o18_1
  have c13_o18_2 : w13.cell? ⟨w3.heap.size, 2, none⟩ = some (.slice A13 n14 c15) := keepc hb' c12_o18_2
  clear c12_o18_2 ac12_o18_2
  have c13_o20_0 : w13.cell? ⟨w4.heap.size, 0, none⟩ = some (.int .i64 sy0) := keepc hb' c12_o20_0
  clear c12_o20_0 ac12_o20_0
  have c13_o20_1 : w13.cell? ⟨w4.heap.size, 1, none⟩ = some (.int .i64 st0) := keepc hb' c12_o20_1
  clear c12_o20_1 ac12_o20_1
  have c13_o20_2 : w13.cell? ⟨w4.heap.size, 2, none⟩ = some (.slice (some ⟨g019, 0, none⟩) n0 n0) := keepc hb' c12_o20_2
  clear c12_o20_2 ac12_o20_2
  have c13_o26_0 : w13.cell? ⟨w5.heap.size, 0, none⟩ = some (.int .i64 RR.1.1) := keepc hb' c12_o26_0
  clear c12_o26_0 ac12_o26_0
  have c13_o26_1 : w13.cell? ⟨w5.heap.size, 1, none⟩ = some (.int .i64 RR.1.2.1) := keepc hb' c12_o26_1
  clear c12_o26_1 ac12_o26_1
  have c13_o26_2 : w13.cell? ⟨w5.heap.size, 2, none⟩ = some (.slice A21 n22 c23) := keepc hb' c12_o26_2
  clear c12_o26_2 ac12_o26_2
  have ac13_a0_0 := fun o => keepa o c13_a0_0
  have ac13_a0_1 := fun o => keepa o c13_a0_1
  have ac13_a0_2 := fun o => keepa o c13_a0_2
  have ac13_o18_0 := fun o => keepa o c13_o18_0
  have ac13_o18_1 := fun o => keepa o c13_o18_1
  have ac13_o18_2 := fun o => keepa o c13_o18_2
  have ac13_o20_0 := fun o => keepa o c13_o20_0
  have ac13_o20_1 := fun o => keepa o c13_o20_1
  have ac13_o20_2 := fun o => keepa o c13_o20_2
  have ac13_o26_0 := fun o => keepa o c13_o26_0
  have ac13_o26_1 := fun o => keepa o c13_o26_1
  have ac13_o26_2 := fun o => keepa o c13_o26_2
  have rP0 := P0.out.below hb'; clear P0; have P0 := Lib.hid rP0; clear rP0
  have rFo12 := Fo12.out.below hb'; clear Fo12; have Fo12 := Lib.hid rFo12; clear rFo12
  have rFo18 := Fo18.out.below hb'; clear Fo18; have Fo18 := Lib.hid rFo18; clear rFo18
  have rFo20 := Fo20.out.below hb'; clear Fo20; have Fo20 := Lib.hid rFo20; clear rFo20
  have rFo26 := Fo26.out.below hb'; clear Fo26; have Fo26 := Lib.hid rFo26; clear rFo26
  have rB := below_chain B.out (by omega) hb'; clear B; have B := Lib.hid rB; clear rB
  have Fo30 := Lib.hid q13; clear q13
  clear hb hb'
  go_wp2_with fail
  refine (iReadPartial_c _ _ _ _ _ _ _ _ HRR.out _ (by exact (Fo30.out.rd)) (by omega) (by omega) (by exact ((HTB.out.below B.out)))).mono ?_
  rintro e w14 ⟨A31, n32, c33, rfl, q34, l35, hb⟩
  have hb' : Below w13.heap.size w13 w14 := (by first | (with_reducible exact hb) | (with_reducible exact up1 hb) | (with_reducible exact up2 hb) | (with_reducible exact up3 hb) | (with_reducible exact up4 hb) | (with_reducible exact below_of_drew hb) | (with_reducible exact below_of_drew (up1 hb)))
  have z14 := hb'.size
  have c14_a0_0 : w14.cell? ⟨w.heap.size, 0, none⟩ = some (.int .i64 sy0) := keepc hb' c13_a0_0
  clear c13_a0_0 ac13_a0_0
  have c14_a0_1 : w14.cell? ⟨w.heap.size, 1, none⟩ = some (.int .i64 st0) := keepc hb' c13_a0_1
  clear c13_a0_1 ac13_a0_1
  have c14_a0_2 : w14.cell? ⟨w.heap.size, 2, none⟩ = some (.slice A0 n0 c0) := keepc hb' c13_a0_2
  clear c13_a0_2 ac13_a0_2
  have c14_o18_0 : w14.cell? ⟨w3.heap.size, 0, none⟩ = some (.int .i64 RR.1.1) := keepc hb' c13_o18_0
  clear c13_o18_0 ac13_o18_0
  have c14_o18_1 : w14.cell? ⟨w3.heap.size, 1, none⟩ = some (.int .i64 RR.1.2.1) := keepc hb' c13_o18_1
  clear c13_o18_1 ac13_o18_1
  have c14_o18_2 : w14.cell? ⟨w3.heap.size, 2, none⟩ = some (.slice A13 n14 c15) := keepc hb' c13_o18_2
  clear c13_o18_2 ac13_o18_2
  have c14_o20_0 : w14.cell? ⟨w4.heap.size, 0, none⟩ = some (.int .i64 sy0) := keepc hb' c13_o20_0
  clear c13_o20_0 ac13_o20_0
  have c14_o20_1 : w14.cell? ⟨w4.heap.size, 1, none⟩ = some (.int .i64 st0) := keepc hb' c13_o20_1
  clear c13_o20_1 ac13_o20_1
  have c14_o20_2 : w14.cell? ⟨w4.heap.size, 2, none⟩ = some (.slice (some ⟨g019, 0, none⟩) n0 n0) := keepc hb' c13_o20_2
  clear c13_o20_2 ac13_o20_2
  have c14_o26_0 : w14.cell? ⟨w5.heap.size, 0, none⟩ = some (.int .i64 RR.1.1) := keepc hb' c13_o26_0
  clear c13_o26_0 ac13_o26_0
  have c14_o26_1 : w14.cell? ⟨w5.heap.size, 1, none⟩ = some (.int .i64 RR.1.2.1) := keepc hb' c13_o26_1
  clear c13_o26_1 ac13_o26_1
  have c14_o26_2 : w14.cell? ⟨w5.heap.size, 2, none⟩ = some (.slice A21 n22 c23) := keepc hb' c13_o26_2
  clear c13_o26_2 ac13_o26_2
  have ac14_a0_0 := fun o => keepa o c14_a0_0
  have ac14_a0_1 := fun o => keepa o c14_a0_1
  have ac14_a0_2 := fun o => keepa o c14_a0_2
  have ac14_o18_0 := fun o => keepa o c14_o18_0
  have ac14_o18_1 := fun o => keepa o c14_o18_1
  have ac14_o18_2 := fun o => keepa o c14_o18_2
  have ac14_o20_0 := fun o => keepa o c14_o20_0
  have ac14_o20_1 := fun o => keepa o c14_o20_1
  have ac14_o20_2 := fun o => keepa o c14_o20_2
  have ac14_o26_0 := fun o => keepa o c14_o26_0
  have ac14_o26_1 := fun o => keepa o c14_o26_1
  have ac14_o26_2 := fun o => keepa o c14_o26_2
  have rP0 := P0.out.below hb'; clear P0; have P0 := Lib.hid rP0; clear rP0
  have rFo12 := Fo12.out.below hb'; clear Fo12; have Fo12 := Lib.hid rFo12; clear rFo12
  have rFo18 := Fo18.out.below hb'; clear Fo18; have Fo18 := Lib.hid rFo18; clear rFo18
  have rFo20 := Fo20.out.below hb'; clear Fo20; have Fo20 := Lib.hid rFo20; clear rFo20
  have rFo26 := Fo26.out.below hb'; clear Fo26; have Fo26 := Lib.hid rFo26; clear rFo26
  have rFo30 := Fo30.out.below hb'; clear Fo30; have Fo30 := Lib.hid rFo30; clear rFo30
  have rB := below_chain B.out (by omega) hb'; clear B; have B := Lib.hid rB; clear rB
  have Fo36 := Lib.hid q34; clear q34
  clear hb hb'
  go_wp2_with fail
  refine (eqPartial_t _ _ _ _ _ _ _ _ _ _ (by exact ((Fo36.out.rd).alloc _)) (by exact ((Fo18.out.rd).alloc _)) (by omega)).mono ?_
  rintro e w15 ⟨rfl, hb⟩
  have hb' : Below w14.heap.size w14 w15 := (by first | (with_reducible exact hb) | (with_reducible exact up1 hb) | (with_reducible exact up2 hb) | (with_reducible exact up3 hb) | (with_reducible exact up4 hb) | (with_reducible exact below_of_drew hb) | (with_reducible exact below_of_drew (up1 hb)))
  have z15 := hb'.size
  have c15_a0_0 : w15.cell? ⟨w.heap.size, 0, none⟩ = some (.int .i64 sy0) := keepc hb' c14_a0_0
  clear c14_a0_0 ac14_a0_0
  have c15_a0_1 : w15.cell? ⟨w.heap.size, 1, none⟩ = some (.int .i64 st0) := keepc hb' c14_a0_1
  clear c14_a0_1 ac14_a0_1
  have c15_a0_2 : w15.cell? ⟨w.heap.size, 2, none⟩ = some (.slice A0 n0 c0) := keepc hb' c14_a0_2
  clear c14_a0_2 ac14_a0_2
  have c15_o18_0 : w15.cell? ⟨w3.heap.size, 0, none⟩ = some (.int .i64 RR.1.1) := keepc hb' c14_o18_0
  clear c14_o18_0 ac14_o18_0
  have c15_o18_1 : w15.cell? ⟨w3.heap.size, 1, none⟩ = some (.int .i64 RR.1.2.1) := keepc hb' c14_o18_1
  clear c14_o18_1 ac14_o18_1
  have c15_o18_2 : w15.cell? ⟨w3.heap.size, 2, none⟩ = some (.slice A13 n14 c15) := keepc hb' c14_o18_2
  clear c14_o18_2 ac14_o18_2
  have c15_o20_0 : w15.cell? ⟨w4.heap.size, 0, none⟩ = some (.int .i64 sy0) := keepc hb' c14_o20_0
  clear c14_o20_0 ac14_o20_0
  have c15_o20_1 : w15.cell? ⟨w4.heap.size, 1, none⟩ = some (.int .i64 st0) := keepc hb' c14_o20_1
  clear c14_o20_1 ac14_o20_1
  have c15_o20_2 : w15.cell? ⟨w4.heap.size, 2, none⟩ = some (.slice (some ⟨g019, 0, none⟩) n0 n0) := keepc hb' c14_o20_2
  clear c14_o20_2 ac14_o20_2
  have c15_o26_0 : w15.cell? ⟨w5.heap.size, 0, none⟩ = some (.int .i64 RR.1.1) := keepc hb' c14_o26_0
  clear c14_o26_0 ac14_o26_0
  have c15_o26_1 : w15.cell? ⟨w5.heap.size, 1, none⟩ = some (.int .i64 RR.1.2.1) := keepc hb' c14_o26_1
  clear c14_o26_1 ac14_o26_1
  have c15_o26_2 : w15.cell? ⟨w5.heap.size, 2, none⟩ = some (.slice A21 n22 c23) := keepc hb' c14_o26_2
  clear c14_o26_2 ac14_o26_2
  have c15_o36_0 : w15.cell? ⟨w14.heap.size, 0, none⟩ = some (.int .i64 RR.1.1) := keepc hb (by first | (simp; done) | (rw [World.cell?_alloc_past _ _ _ (by simp <;> omega)]; simp; done) | (rw [World.cell?_alloc_past _ _ _ (by simp <;> omega), World.cell?_alloc_past _ _ _ (by simp <;> omega)]; simp; done) | (rw [World.cell?_alloc_past _ _ _ (by simp <;> omega), World.cell?_alloc_past _ _ _ (by simp <;> omega), World.cell?_alloc_past _ _ _ (by simp <;> omega)]; simp; done) | (rw [World.cell?_alloc_at _ _ _ _ (by simp)]; simp; done) | (rw [World.cell?_alloc_past _ _ _ (by simp <;> omega), World.cell?_alloc_at _ _ _ _ (by simp)]; simp; done) | (rw [World.cell?_alloc_past _ _ _ (by simp <;> omega), World.cell?_alloc_past _ _ _ (by simp <;> omega), World.cell?_alloc_at _ _ _ _ (by simp)]; simp; done) | (rw [World.cell?_alloc_past _ _ _ (by simp <;> omega), World.cell?_alloc_past _ _ _ (by simp <;> omega), World.cell?_alloc_past _ _ _ (by simp <;> omega), World.cell?_alloc_at _ _ _ _ (by simp)]; simp; done))
  have hl_c15_o36_0 : w14.heap.size < w15.heap.size := World.block_lt_of_cell? w15 _ c15_o36_0
  have c15_o36_1 : w15.cell? ⟨w14.heap.size, 1, none⟩ = some (.int .i64 RR.1.2.1) := keepc hb (by first | (simp; done) | (rw [World.cell?_alloc_past _ _ _ (by simp <;> omega)]; simp; done) | (rw [World.cell?_alloc_past _ _ _ (by simp <;> omega), World.cell?_alloc_past _ _ _ (by simp <;> omega)]; simp; done) | (rw [World.cell?_alloc_past _ _ _ (by simp <;> omega), World.cell?_alloc_past _ _ _ (by simp <;> omega), World.cell?_alloc_past _ _ _ (by simp <;> omega)]; simp; done) | (rw [World.cell?_alloc_at _ _ _ _ (by simp)]; simp; done) | (rw [World.cell?_alloc_past _ _ _ (by simp <;> omega), World.cell?_alloc_at _ _ _ _ (by simp)]; simp; done) | (rw [World.cell?_alloc_past _ _ _ (by simp <;> omega), World.cell?_alloc_past _ _ _ (by simp <;> omega), World.cell?_alloc_at _ _ _ _ (by simp)]; simp; done) | (rw [World.cell?_alloc_past _ _ _ (by simp <;> omega), World.cell?_alloc_past _ _ _ (by simp <;> omega), World.cell?_alloc_past _ _ _ (by simp <;> omega), World.cell?_alloc_at _ _ _ _ (by simp)]; simp; done))
  have c15_o36_2 : w15.cell? ⟨w14.heap.size, 2, none⟩ = some (.slice A31 n32 c33) := keepc hb (by first | (simp; done) | (rw [World.cell?_alloc_past _ _ _ (by simp <;> omega)]; simp; done) | (rw [World.cell?_alloc_past _ _ _ (by simp <;> omega), World.cell?_alloc_past _ _ _ (by simp <;> omega)]; simp; done) | (rw [World.cell?_alloc_past _ _ _ (by simp <;> omega), World.cell?_alloc_past _ _ _ (by simp <;> omega), World.cell?_alloc_past _ _ _ (by simp <;> omega)]; simp; done) | (rw [World.cell?_alloc_at _ _ _ _ (by simp)]; simp; done) | (rw [World.cell?_alloc_past _ _ _ (by simp <;> omega), World.cell?_alloc_at _ _ _ _ (by simp)]; simp; done) | (rw [World.cell?_alloc_past _ _ _ (by simp <;> omega), World.cell?_alloc_past _ _ _ (by simp <;> omega), World.cell?_alloc_at _ _ _ _ (by simp)]; simp; done) | (rw [World.cell?_alloc_past _ _ _ (by simp <;> omega), World.cell?_alloc_past _ _ _ (by simp <;> omega), World.cell?_alloc_past _ _ _ (by simp <;> omega), World.cell?_alloc_at _ _ _ _ (by simp)]; simp; done))
  have ac15_a0_0 := fun o => keepa o c15_a0_0
  have ac15_a0_1 := fun o => keepa o c15_a0_1
  have ac15_a0_2 := fun o => keepa o c15_a0_2
  have ac15_o18_0 := fun o => keepa o c15_o18_0
  have ac15_o18_1 := fun o => keepa o c15_o18_1
  have ac15_o18_2 := fun o => keepa o c15_o18_2
  have ac15_o20_0 := fun o => keepa o c15_o20_0
  have ac15_o20_1 := fun o => keepa o c15_o20_1
  have ac15_o20_2 := fun o => keepa o c15_o20_2
  have ac15_o26_0 := fun o => keepa o c15_o26_0
  have ac15_o26_1 := fun o => keepa o c15_o26_1
  have ac15_o26_2 := fun o => keepa o c15_o26_2
  have ac15_o36_0 := fun o => keepa o c15_o36_0
  have ac15_o36_1 := fun o => keepa o c15_o36_1
  have ac15_o36_2 := fun o => keepa o c15_o36_2
  have rP0 := P0.out.below hb'; clear P0; have P0 := Lib.hid rP0; clear rP0
  have rFo12 := Fo12.out.below hb'; clear Fo12; have Fo12 := Lib.hid rFo12; clear rFo12
  have rFo18 := Fo18.out.below hb'; clear Fo18; have Fo18 := Lib.hid rFo18; clear rFo18
  have rFo20 := Fo20.out.below hb'; clear Fo20; have Fo20 := Lib.hid rFo20; clear rFo20
  have rFo26 := Fo26.out.below hb'; clear Fo26; have Fo26 := Lib.hid rFo26; clear rFo26
  have rFo30 := Fo30.out.below hb'; clear Fo30; have Fo30 := Lib.hid rFo30; clear rFo30
  have rFo36 := Fo36.out.below hb'; clear Fo36; have Fo36 := Lib.hid rFo36; clear rFo36
  have rB := below_chain B.out (by omega) hb'; clear B; have B := Lib.hid rB; clear rB
  clear hb hb'
  go_wp2_with fail
  refine (heldPartial_c _ _ _ _ _ _ _ _ (by exact (Fo26.out.rd)) (by omega) (by omega) (by omega)).mono ?_
  rintro e w16 ⟨rfl, hb⟩
  have hb' : Below w15.heap.size w15 w16 := (by first | (with_reducible exact hb) | (with_reducible exact up1 hb) | (with_reducible exact up2 hb) | (with_reducible exact up3 hb) | (with_reducible exact up4 hb) | (with_reducible exact below_of_drew hb) | (with_reducible exact below_of_drew (up1 hb)))
  have z16 := hb'.size
  have c16_a0_0 : w16.cell? ⟨w.heap.size, 0, none⟩ = some (.int .i64 sy0) := keepc hb' c15_a0_0
  clear c15_a0_0 ac15_a0_0
  have c16_a0_1 : w16.cell? ⟨w.heap.size, 1, none⟩ = some (.int .i64 st0) := keepc hb' c15_a0_1
  clear c15_a0_1 ac15_a0_1
  have c16_a0_2 : w16.cell? ⟨w.heap.size, 2, none⟩ = some (.slice A0 n0 c0) := keepc hb' c15_a0_2
  clear c15_a0_2 ac15_a0_2
  have c16_o18_0 : w16.cell? ⟨w3.heap.size, 0, none⟩ = some (.int .i64 RR.1.1) := keepc hb' c15_o18_0
  clear c15_o18_0 ac15_o18_0
  have c16_o18_1 : w16.cell? ⟨w3.heap.size, 1, none⟩ = some (.int .i64 RR.1.2.1) := keepc hb' c15_o18_1
  clear c15_o18_1 ac15_o18_1
  have c16_o18_2 : w16.cell? ⟨w3.heap.size, 2, none⟩ = some (.slice A13 n14 c15) := keepc hb' c15_o18_2
  clear c15_o18_2 ac15_o18_2
  have c16_o20_0 : w16.cell? ⟨w4.heap.size, 0, none⟩ = some (.int .i64 sy0) := keepc hb' c15_o20_0
  clear c15_o20_0 ac15_o20_0
  have c16_o20_1 : w16.cell? ⟨w4.heap.size, 1, none⟩ = some (.int .i64 st0) := keepc hb' c15_o20_1
  clear c15_o20_1 ac15_o20_1
  have c16_o20_2 : w16.cell? ⟨w4.heap.size, 2, none⟩ = some (.slice (some ⟨g019, 0, none⟩) n0 n0) := keepc hb' c15_o20_2
  clear c15_o20_2 ac15_o20_2
  have c16_o26_0 : w16.cell? ⟨w5.heap.size, 0, none⟩ = some (.int .i64 RR.1.1) := keepc hb' c15_o26_0
  clear c15_o26_0 ac15_o26_0
  have c16_o26_1 : w16.cell? ⟨w5.heap.size, 1, none⟩ = some (.int .i64 RR.1.2.1) := keepc hb' c15_o26_1
  clear c15_o26_1 ac15_o26_1
  have c16_o26_2 : w16.cell? ⟨w5.heap.size, 2, none⟩ = some (.slice A21 n22 c23) := keepc hb' c15_o26_2
  clear c15_o26_2 ac15_o26_2
  have c16_o36_0 : w16.cell? ⟨w14.heap.size, 0, none⟩ = some (.int .i64 RR.1.1) := keepc hb' c15_o36_0
  clear c15_o36_0 ac15_o36_0
  have c16_o36_1 : w16.cell? ⟨w14.heap.size, 1, none⟩ = some (.int .i64 RR.1.2.1) := keepc hb' c15_o36_1
  clear c15_o36_1 ac15_o36_1
  have c16_o36_2 : w16.cell? ⟨w14.heap.size, 2, none⟩ = some (.slice A31 n32 c33) := keepc hb' c15_o36_2
  clear c15_o36_2 ac15_o36_2
  have ac16_a0_0 := fun o => keepa o c16_a0_0
  have ac16_a0_1 := fun o => keepa o c16_a0_1
  have ac16_a0_2 := fun o => keepa o c16_a0_2
  have ac16_o18_0 := fun o => keepa o c16_o18_0
  have ac16_o18_1 := fun o => keepa o c16_o18_1
  have ac16_o18_2 := fun o => keepa o c16_o18_2
  have ac16_o20_0 := fun o => keepa o c16_o20_0
  have ac16_o20_1 := fun o => keepa o c16_o20_1
  have ac16_o20_2 := fun o => keepa o c16_o20_2
  have ac16_o26_0 := fun o => keepa o c16_o26_0
  have ac16_o26_1 := fun o => keepa o c16_o26_1
  have ac16_o26_2 := fun o => keepa o c16_o26_2
  have ac16_o36_0 := fun o => keepa o c16_o36_0
  have ac16_o36_1 := fun o => keepa o c16_o36_1
  have ac16_o36_2 := fun o => keepa o c16_o36_2
  have rP0 := P0.out.below hb'; clear P0; have P0 := Lib.hid rP0; clear rP0
  have rFo12 := Fo12.out.below hb'; clear Fo12; have Fo12 := Lib.hid rFo12; clear rFo12
  have rFo18 := Fo18.out.below hb'; clear Fo18; have Fo18 := Lib.hid rFo18; clear rFo18
  have rFo20 := Fo20.out.below hb'; clear Fo20; have Fo20 := Lib.hid rFo20; clear rFo20
  have rFo26 := Fo26.out.below hb'; clear Fo26; have Fo26 := Lib.hid rFo26; clear rFo26
  have rFo30 := Fo30.out.below hb'; clear Fo30; have Fo30 := Lib.hid rFo30; clear rFo30
  have rFo36 := Fo36.out.below hb'; clear Fo36; have Fo36 := Lib.hid rFo36; clear rFo36
  have rB := below_chain B.out (by omega) hb'; clear B; have B := Lib.hid rB; clear rB
  clear hb hb'
  go_wp2
  go_ret
  exact ⟨rfl, B.out⟩
end Go.Proofs.YtdendllginlidaaGreatDoor
