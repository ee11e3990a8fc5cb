/-
  FnExactShiftOver returns true for every input: its walk, out of the contracts.
-/
import Derived.Test.YtdnicjeadpefnaaLawMachine
import Derived.Test.YtdnicjeadpefnaaLawI
import Derived.Test.YtdnicjeadpefnaaC27d
import Derived.Test.YtdnicjeadpefnaaOpen
namespace Go.Proofs.Ytdnicjeadpefnaa
open Go.RowKit

set_option maxHeartbeats 4000000 in
set_option maxRecDepth 100000 in
theorem walkShiftOver (sy0 : Int) (st0 : Int) (A0 : Option Addr) (n0 : Nat) (c0 : Nat) (xs0 : List (Int × Int × Int)) (x1 : Int) (A2 : Option Addr) (n2 : Nat) (c2 : Nat) (xs2 : List Int) (x3 : Int) (w : World) (h0 : RdS w [sgX enc3 3 A0 n0 xs0]) (hb0_0 : n0 ≤ 9223372036854775807) (_o0 : i64ok sy0) (_p0 : i64ok st0) (_oo0 : ∀ x ∈ xs0, i64ok x.1 ∧ i64ok x.2.1 ∧ i64ok x.2.2) (_o1 : i64ok x1) (h2 : RdI w A2 n2 xs2) (hb2 : n2 ≤ 9223372036854775807) (_oo2 : ∀ x ∈ xs2, i64ok x) (_o3 : i64ok x3) :
    Calls Try.prog 3 #[.agg #[.int .i64 sy0, .int .i64 st0, .slice A0 n0 c0], .int .i64 x1, .slice A2 n2 c2, .int .i64 x3] w fun e w' => e = .returned (.bool true) ∧ Below w.heap.size w w' := by
  have P0 := Lib.hid (RdSU.mk' h0); clear h0
  have P2 := Lib.hid (RdU.mk' h2); clear h2
  by_cases hsa2 : 1048576 < n2
  · go_enter Try.func3, Try.ntmps3
    go_wp2
    go_ret
    exact ⟨rfl, below_size.alloc (Nat.le_refl _) _⟩
  go_enter Try.func3, Try.ntmps3
  go_wp2_with fail
  refine (szMachine_c _ _ _ _ _ xs0 _ _ hb0_0 (by omega) (by omega)).mono ?_
  rintro e w1 ⟨rfl, hb⟩
  have hb' : Below w.heap.size w w1 := (by first | (with_reducible exact hb) | (with_reducible exact up1 hb) | (with_reducible exact up2 hb) | (with_reducible exact up3 hb) | (with_reducible exact up4 hb) | (with_reducible exact below_of_drew hb) | (with_reducible exact below_of_drew (up1 hb)))
  have z1 := hb'.size
  have c1_a0_0 : w1.cell? ⟨w.heap.size, 0, none⟩ = some (.int .i64 sy0) := keepc hb (by first | (simp; done) | (rw [World.cell?_alloc_past _ _ _ (by simp <;> omega)]; simp; done) | (rw [World.cell?_alloc_past _ _ _ (by simp <;> omega), World.cell?_alloc_past _ _ _ (by simp <;> omega)]; simp; done) | (rw [World.cell?_alloc_at _ _ _ _ (by simp)]; simp; done))
  have hl_c1_a0_0 : w.heap.size < w1.heap.size := World.block_lt_of_cell? w1 _ c1_a0_0
  have c1_a0_1 : w1.cell? ⟨w.heap.size, 1, none⟩ = some (.int .i64 st0) := keepc hb (by first | (simp; done) | (rw [World.cell?_alloc_past _ _ _ (by simp <;> omega)]; simp; done) | (rw [World.cell?_alloc_past _ _ _ (by simp <;> omega), World.cell?_alloc_past _ _ _ (by simp <;> omega)]; simp; done) | (rw [World.cell?_alloc_at _ _ _ _ (by simp)]; simp; done))
  have c1_a0_2 : w1.cell? ⟨w.heap.size, 2, none⟩ = some (.slice A0 n0 c0) := keepc hb (by first | (simp; done) | (rw [World.cell?_alloc_past _ _ _ (by simp <;> omega)]; simp; done) | (rw [World.cell?_alloc_past _ _ _ (by simp <;> omega), World.cell?_alloc_past _ _ _ (by simp <;> omega)]; simp; done) | (rw [World.cell?_alloc_at _ _ _ _ (by simp)]; simp; done))
  have ac1_a0_0 := fun o => keepa o c1_a0_0
  have ac1_a0_1 := fun o => keepa o c1_a0_1
  have ac1_a0_2 := fun o => keepa o c1_a0_2
  have rP0 := P0.out.below hb'; clear P0; have P0 := Lib.hid rP0; clear rP0
  have rP2 := P2.out.below hb'; clear P2; have P2 := Lib.hid rP2; clear rP2
  have rB := hb'; have B := Lib.hid rB; clear rB
  clear hb hb'
  by_cases hs1 : 1048576 < n0
  · rw [szOf_neg' (by omega)]
    go_wp2
    go_ret
    exact ⟨rfl, B.out⟩
  rw [szOf_pos' (by omega)]
  have hs1' : (0 : Int) ≤ 1048576 - (n0 : Nat) := by omega
  go_wp2_with fail
  refine (toMachine_c _ _ _ _ _ _ _ (by exact (P0.out.rd)) (by omega)).mono ?_
  rintro e w2 ⟨g011, rfl, q2, hb⟩
  have hb' : Below w1.heap.size w1 w2 := (by first | (with_reducible exact hb) | (with_reducible exact up1 hb) | (with_reducible exact up2 hb) | (with_reducible exact up3 hb) | (with_reducible exact up4 hb) | (with_reducible exact below_of_drew hb) | (with_reducible exact below_of_drew (up1 hb)))
  have z2 := hb'.size
  have c2_a0_0 : w2.cell? ⟨w.heap.size, 0, none⟩ = some (.int .i64 sy0) := keepc hb' c1_a0_0
  clear c1_a0_0 ac1_a0_0
  have c2_a0_1 : w2.cell? ⟨w.heap.size, 1, none⟩ = some (.int .i64 st0) := keepc hb' c1_a0_1
  clear c1_a0_1 ac1_a0_1
  have c2_a0_2 : w2.cell? ⟨w.heap.size, 2, none⟩ = some (.slice A0 n0 c0) := keepc hb' c1_a0_2
  clear c1_a0_2 ac1_a0_2
  have ac2_a0_0 := fun o => keepa o c2_a0_0
  have ac2_a0_1 := fun o => keepa o c2_a0_1
  have ac2_a0_2 := fun o => keepa o c2_a0_2
  have rP0 := P0.out.below hb'; clear P0; have P0 := Lib.hid rP0; clear rP0
  have rP2 := P2.out.below hb'; clear P2; have P2 := Lib.hid rP2; clear rP2
  have rB := below_chain B.out (by omega) hb'; clear B; have B := Lib.hid rB; clear rB
  have Fo12 := Lib.hid q2; clear q2
  clear hb hb'
  go_wp2_with fail
  refine (toInt64S_c _ _ _ _ _ (by exact (P2.out.1)) (by omega)).mono ?_
  rintro e w3 ⟨rfl, q3, hb⟩
  have hb' : Below w2.heap.size w2 w3 := (by first | (with_reducible exact hb) | (with_reducible exact up1 hb) | (with_reducible exact up2 hb) | (with_reducible exact up3 hb) | (with_reducible exact up4 hb) | (with_reducible exact below_of_drew hb) | (with_reducible exact below_of_drew (up1 hb)))
  have z3 := hb'.size
  have c3_a0_0 : w3.cell? ⟨w.heap.size, 0, none⟩ = some (.int .i64 sy0) := keepc hb' c2_a0_0
  clear c2_a0_0 ac2_a0_0
  have c3_a0_1 : w3.cell? ⟨w.heap.size, 1, none⟩ = some (.int .i64 st0) := keepc hb' c2_a0_1
  clear c2_a0_1 ac2_a0_1
  have c3_a0_2 : w3.cell? ⟨w.heap.size, 2, none⟩ = some (.slice A0 n0 c0) := keepc hb' c2_a0_2
  clear c2_a0_2 ac2_a0_2
  have ac3_a0_0 := fun o => keepa o c3_a0_0
  have ac3_a0_1 := fun o => keepa o c3_a0_1
  have ac3_a0_2 := fun o => keepa o c3_a0_2
  have rP0 := P0.out.below hb'; clear P0; have P0 := Lib.hid rP0; clear rP0
  have rP2 := P2.out.below hb'; clear P2; have P2 := Lib.hid rP2; clear rP2
  have rFo12 := Fo12.out.below hb'; clear Fo12; have Fo12 := Lib.hid rFo12; clear rFo12
  have rB := below_chain B.out (by omega) hb'; clear B; have B := Lib.hid rB; clear rB
  have Fo13 := Lib.hid q3; clear q3
  clear hb hb'
  go_wp2_with fail
  refine (sShiftOver_c _ _ _ _ _ _ _ _ _ _ _ _ _ (by exact (Fo12.out.rd)) (by exact (Fo13.out.rdI)) (by omega) (by omega)).mono ?_
  rintro e w4 ⟨A14, n15, c16, rfl, q17, l18, hb⟩
  have hb' : Below w3.heap.size w3 w4 := (by first | (with_reducible exact hb) | (with_reducible exact up1 hb) | (with_reducible exact up2 hb) | (with_reducible exact up3 hb) | (with_reducible exact up4 hb) | (with_reducible exact below_of_drew hb) | (with_reducible exact below_of_drew (up1 hb)))
  have z4 := hb'.size
  have c4_a0_0 : w4.cell? ⟨w.heap.size, 0, none⟩ = some (.int .i64 sy0) := keepc hb' c3_a0_0
  clear c3_a0_0 ac3_a0_0
  have c4_a0_1 : w4.cell? ⟨w.heap.size, 1, none⟩ = some (.int .i64 st0) := keepc hb' c3_a0_1
  clear c3_a0_1 ac3_a0_1
  have c4_a0_2 : w4.cell? ⟨w.heap.size, 2, none⟩ = some (.slice A0 n0 c0) := keepc hb' c3_a0_2
  clear c3_a0_2 ac3_a0_2
  have ac4_a0_0 := fun o => keepa o c4_a0_0
  have ac4_a0_1 := fun o => keepa o c4_a0_1
  have ac4_a0_2 := fun o => keepa o c4_a0_2
  have rP0 := P0.out.below hb'; clear P0; have P0 := Lib.hid rP0; clear rP0
  have rP2 := P2.out.below hb'; clear P2; have P2 := Lib.hid rP2; clear rP2
  have rFo12 := Fo12.out.below hb'; clear Fo12; have Fo12 := Lib.hid rFo12; clear rFo12
  have rFo13 := Fo13.out.below hb'; clear Fo13; have Fo13 := Lib.hid rFo13; clear rFo13
  have rB := below_chain B.out (by omega) hb'; clear B; have B := Lib.hid rB; clear rB
  have Fo19 := Lib.hid q17; clear q17
  clear hb hb'
  go_wp2_with fail
  refine (toMachine_c _ _ _ _ _ _ _ (by exact (P0.out.rd)) (by omega)).mono ?_
  rintro e w5 ⟨g020, rfl, q5, hb⟩
  have hb' : Below w4.heap.size w4 w5 := (by first | (with_reducible exact hb) | (with_reducible exact up1 hb) | (with_reducible exact up2 hb) | (with_reducible exact up3 hb) | (with_reducible exact up4 hb) | (with_reducible exact below_of_drew hb) | (with_reducible exact below_of_drew (up1 hb)))
  have z5 := hb'.size
  have c5_a0_0 : w5.cell? ⟨w.heap.size, 0, none⟩ = some (.int .i64 sy0) := keepc hb' c4_a0_0
  clear c4_a0_0 ac4_a0_0
  have c5_a0_1 : w5.cell? ⟨w.heap.size, 1, none⟩ = some (.int .i64 st0) := keepc hb' c4_a0_1
  clear c4_a0_1 ac4_a0_1
  have c5_a0_2 : w5.cell? ⟨w.heap.size, 2, none⟩ = some (.slice A0 n0 c0) := keepc hb' c4_a0_2
  clear c4_a0_2 ac4_a0_2
  have ac5_a0_0 := fun o => keepa o c5_a0_0
  have ac5_a0_1 := fun o => keepa o c5_a0_1
  have ac5_a0_2 := fun o => keepa o c5_a0_2
  have rP0 := P0.out.below hb'; clear P0; have P0 := Lib.hid rP0; clear rP0
  have rP2 := P2.out.below hb'; clear P2; have P2 := Lib.hid rP2; clear rP2
  have rFo12 := Fo12.out.below hb'; clear Fo12; have Fo12 := Lib.hid rFo12; clear rFo12
  have rFo13 := Fo13.out.below hb'; clear Fo13; have Fo13 := Lib.hid rFo13; clear rFo13
  have rFo19 := Fo19.out.below hb'; clear Fo19; have Fo19 := Lib.hid rFo19; clear rFo19
  have rB := below_chain B.out (by omega) hb'; clear B; have B := Lib.hid rB; clear rB
  have Fo21 := Lib.hid q5; clear q5
  clear hb hb'
  go_wp2_with fail
  refine (toInt64S_c _ _ _ _ _ (by exact ((P2.out.1).alloc _)) (by omega)).mono ?_
  rintro e w6 ⟨rfl, q6, hb⟩
  try simp only [World.size_alloc] at q6
  have hb' : Below w5.heap.size w5 w6 := (by first | (with_reducible exact hb) | (with_reducible exact up1 hb) | (with_reducible exact up2 hb) | (with_reducible exact up3 hb) | (with_reducible exact up4 hb) | (with_reducible exact below_of_drew hb) | (with_reducible exact below_of_drew (up1 hb)))
  have z6 := hb'.size
  have c6_a0_0 : w6.cell? ⟨w.heap.size, 0, none⟩ = some (.int .i64 sy0) := keepc hb' c5_a0_0
  clear c5_a0_0 ac5_a0_0
  have c6_a0_1 : w6.cell? ⟨w.heap.size, 1, none⟩ = some (.int .i64 st0) := keepc hb' c5_a0_1
  clear c5_a0_1 ac5_a0_1
  have c6_a0_2 : w6.cell? ⟨w.heap.size, 2, none⟩ = some (.slice A0 n0 c0) := keepc hb' c5_a0_2
  clear c5_a0_2 ac5_a0_2
  have c6_o21_0 : w6.cell? ⟨w5.heap.size, 0, none⟩ = some (.int .i64 sy0) := keepc hb (by first | (simp; done) | (rw [World.cell?_alloc_past _ _ _ (by simp <;> omega)]; simp; done) | (rw [World.cell?_alloc_past _ _ _ (by simp <;> omega), World.cell?_alloc_past _ _ _ (by simp <;> omega)]; simp; done) | (rw [World.cell?_alloc_at _ _ _ _ (by simp)]; simp; done))
  have hl_c6_o21_0 : w5.heap.size < w6.heap.size := World.block_lt_of_cell? w6 _ c6_o21_0
  have c6_o21_1 : w6.cell? ⟨w5.heap.size, 1, none⟩ = some (.int .i64 st0) := keepc hb (by first | (simp; done) | (rw [World.cell?_alloc_past _ _ _ (by simp <;> omega)]; simp; done) | (rw [World.cell?_alloc_past _ _ _ (by simp <;> omega), World.cell?_alloc_past _ _ _ (by simp <;> omega)]; simp; done) | (rw [World.cell?_alloc_at _ _ _ _ (by simp)]; simp; done))
  have c6_o21_2 : w6.cell? ⟨w5.heap.size, 2, none⟩ = some (.slice (some ⟨g020, 0, none⟩) n0 n0) := keepc hb (by first | (simp; done) | (rw [World.cell?_alloc_past _ _ _ (by simp <;> omega)]; simp; done) | (rw [World.cell?_alloc_past _ _ _ (by simp <;> omega), World.cell?_alloc_past _ _ _ (by simp <;> omega)]; simp; done) | (rw [World.cell?_alloc_at _ _ _ _ (by simp)]; simp; done))
  have ac6_a0_0 := fun o => keepa o c6_a0_0
  have ac6_a0_1 := fun o => keepa o c6_a0_1
  have ac6_a0_2 := fun o => keepa o c6_a0_2
  have ac6_o21_0 := fun o => keepa o c6_o21_0
  have ac6_o21_1 := fun o => keepa o c6_o21_1
  have ac6_o21_2 := fun o => keepa o c6_o21_2
  have rP0 := P0.out.below hb'; clear P0; have P0 := Lib.hid rP0; clear rP0
  have rP2 := P2.out.below hb'; clear P2; have P2 := Lib.hid rP2; clear rP2
  have rFo12 := Fo12.out.below hb'; clear Fo12; have Fo12 := Lib.hid rFo12; clear rFo12
  have rFo13 := Fo13.out.below hb'; clear Fo13; have Fo13 := Lib.hid rFo13; clear rFo13
  have rFo19 := Fo19.out.below hb'; clear Fo19; have Fo19 := Lib.hid rFo19; clear rFo19
  have rFo21 := Fo21.out.below hb'; clear Fo21; have Fo21 := Lib.hid rFo21; clear rFo21
  have rB := below_chain B.out (by omega) hb'; clear B; have B := Lib.hid rB; clear rB
  have Fo22 := Lib.hid q6; clear q6
  clear hb hb'
  go_wp2_with fail
  refine (iShiftOver_c _ _ _ _ _ _ _ _ _ _ _ _ _ (by exact (Fo21.out.rd)) (by exact (Fo22.out.rdI)) (by omega) (by omega)).mono ?_
  rintro e w7 ⟨A23, n24, c25, rfl, q26, l27, hb⟩
  have hb' : Below w6.heap.size w6 w7 := (by first | (with_reducible exact hb) | (with_reducible exact up1 hb) | (with_reducible exact up2 hb) | (with_reducible exact up3 hb) | (with_reducible exact up4 hb) | (with_reducible exact below_of_drew hb) | (with_reducible exact below_of_drew (up1 hb)))
  have z7 := hb'.size
  have c7_a0_0 : w7.cell? ⟨w.heap.size, 0, none⟩ = some (.int .i64 sy0) := keepc hb' c6_a0_0
  clear c6_a0_0 ac6_a0_0
  have c7_a0_1 : w7.cell? ⟨w.heap.size, 1, none⟩ = some (.int .i64 st0) := keepc hb' c6_a0_1
  clear c6_a0_1 ac6_a0_1
  have c7_a0_2 : w7.cell? ⟨w.heap.size, 2, none⟩ = some (.slice A0 n0 c0) := keepc hb' c6_a0_2
  clear c6_a0_2 ac6_a0_2
  have c7_o21_0 : w7.cell? ⟨w5.heap.size, 0, none⟩ = some (.int .i64 sy0) := keepc hb' c6_o21_0
  clear c6_o21_0 ac6_o21_0
  have c7_o21_1 : w7.cell? ⟨w5.heap.size, 1, none⟩ = some (.int .i64 st0) := keepc hb' c6_o21_1
  clear c6_o21_1 ac6_o21_1
  have c7_o21_2 : w7.cell? ⟨w5.heap.size, 2, none⟩ = some (.slice (some ⟨g020, 0, none⟩) n0 n0) := keepc hb' c6_o21_2
  clear c6_o21_2 ac6_o21_2
  have ac7_a0_0 := fun o => keepa o c7_a0_0
  have ac7_a0_1 := fun o => keepa o c7_a0_1
  have ac7_a0_2 := fun o => keepa o c7_a0_2
  have ac7_o21_0 := fun o => keepa o c7_o21_0
  have ac7_o21_1 := fun o => keepa o c7_o21_1
  have ac7_o21_2 := fun o => keepa o c7_o21_2
  have rP0 := P0.out.below hb'; clear P0; have P0 := Lib.hid rP0; clear rP0
  have rP2 := P2.out.below hb'; clear P2; have P2 := Lib.hid rP2; clear rP2
  have rFo12 := Fo12.out.below hb'; clear Fo12; have Fo12 := Lib.hid rFo12; clear rFo12
  have rFo13 := Fo13.out.below hb'; clear Fo13; have Fo13 := Lib.hid rFo13; clear rFo13
  have rFo19 := Fo19.out.below hb'; clear Fo19; have Fo19 := Lib.hid rFo19; clear rFo19
  have rFo21 := Fo21.out.below hb'; clear Fo21; have Fo21 := Lib.hid rFo21; clear rFo21
  have rFo22 := Fo22.out.below hb'; clear Fo22; have Fo22 := Lib.hid rFo22; clear rFo22
  have rB := below_chain B.out (by omega) hb'; clear B; have B := Lib.hid rB; clear rB
  have Fo28 := Lib.hid q26; clear q26
  clear hb hb'
  go_wp2_with fail
  refine (eqInt64S_t _ _ _ _ _ _ _ _ (by exact (Fo28.out.rdI)) (by exact (Fo19.out.rdI)) (by omega)).mono ?_
  rintro e w8 ⟨rfl, hb⟩
  have hb' : Below w7.heap.size w7 w8 := (by first | (with_reducible exact hb) | (with_reducible exact up1 hb) | (with_reducible exact up2 hb) | (with_reducible exact up3 hb) | (with_reducible exact up4 hb) | (with_reducible exact below_of_drew hb) | (with_reducible exact below_of_drew (up1 hb)))
  have z8 := hb'.size
  have c8_a0_0 : w8.cell? ⟨w.heap.size, 0, none⟩ = some (.int .i64 sy0) := keepc hb' c7_a0_0
  clear c7_a0_0 ac7_a0_0
  have c8_a0_1 : w8.cell? ⟨w.heap.size, 1, none⟩ = some (.int .i64 st0) := keepc hb' c7_a0_1
  clear c7_a0_1 ac7_a0_1
  have c8_a0_2 : w8.cell? ⟨w.heap.size, 2, none⟩ = some (.slice A0 n0 c0) := keepc hb' c7_a0_2
  clear c7_a0_2 ac7_a0_2
  have c8_o21_0 : w8.cell? ⟨w5.heap.size, 0, none⟩ = some (.int .i64 sy0) := keepc hb' c7_o21_0
  clear c7_o21_0 ac7_o21_0
  have c8_o21_1 : w8.cell? ⟨w5.heap.size, 1, none⟩ = some (.int .i64 st0) := keepc hb' c7_o21_1
  clear c7_o21_1 ac7_o21_1
  have c8_o21_2 : w8.cell? ⟨w5.heap.size, 2, none⟩ = some (.slice (some ⟨g020, 0, none⟩) n0 n0) := keepc hb' c7_o21_2
  clear c7_o21_2 ac7_o21_2
  have ac8_a0_0 := fun o => keepa o c8_a0_0
  have ac8_a0_1 := fun o => keepa o c8_a0_1
  have ac8_a0_2 := fun o => keepa o c8_a0_2
  have ac8_o21_0 := fun o => keepa o c8_o21_0
  have ac8_o21_1 := fun o => keepa o c8_o21_1
  have ac8_o21_2 := fun o => keepa o c8_o21_2
  have rP0 := P0.out.below hb'; clear P0; have P0 := Lib.hid rP0; clear rP0
  have rP2 := P2.out.below hb'; clear P2; have P2 := Lib.hid rP2; clear rP2
  have rFo12 := Fo12.out.below hb'; clear Fo12; have Fo12 := Lib.hid rFo12; clear rFo12
  have rFo13 := Fo13.out.below hb'; clear Fo13; have Fo13 := Lib.hid rFo13; clear rFo13
  have rFo19 := Fo19.out.below hb'; clear Fo19; have Fo19 := Lib.hid rFo19; clear rFo19
  have rFo21 := Fo21.out.below hb'; clear Fo21; have Fo21 := Lib.hid rFo21; clear rFo21
  have rFo22 := Fo22.out.below hb'; clear Fo22; have Fo22 := Lib.hid rFo22; clear rFo22
  have rFo28 := Fo28.out.below hb'; clear Fo28; have Fo28 := Lib.hid rFo28; clear rFo28
  have rB := below_chain B.out (by omega) hb'; clear B; have B := Lib.hid rB; clear rB
  clear hb hb'
  go_wp2_with fail
  have fx_c8_a0_0 := Ext.cell c8_a0_0
  have fx_c8_a0_1 := Ext.cell c8_a0_1
  have fx_c8_a0_2 := Ext.cell c8_a0_2
  have fx_c8_o21_0 := Ext.cell c8_o21_0
  have fx_c8_o21_1 := Ext.cell c8_o21_1
  have fx_c8_o21_2 := Ext.cell c8_o21_2
  refine Mix.wp_region_mix [3, 3, 1, 1, 0] (fun w' => ∃ x : Ext w8, w' = x.w) (by kernel_rfl) (by kernel_rfl) (InExt.drew _) ?_
  repeat (first | (refine Mix.wpMix_read (by rfl) ?_; go_big_quiet_step (fail); refine wpQuiet_nil ?_) | (refine Mix.wpMix_pure (by rfl) ?_; go_big_quiet_step (fail); refine wpQuiet_nil ?_))
  refine Mix.wpMix_chg (by rfl) (fun K hK => ?_)
  go_wp2_with fail
  refine (toMachine_c _ _ _ _ _ _ _ (by exact (P0.out.rd)) (by omega)).mono ?_
  rintro e w9 ⟨g029, rfl, q9, hb⟩
  have hb' : Below w8.heap.size w8 w9 := (by first | (with_reducible exact hb) | (with_reducible exact up1 hb) | (with_reducible exact up2 hb) | (with_reducible exact up3 hb) | (with_reducible exact up4 hb) | (with_reducible exact below_of_drew hb) | (with_reducible exact below_of_drew (up1 hb)))
  have z9 := hb'.size
  have c9_a0_0 : w9.cell? ⟨w.heap.size, 0, none⟩ = some (.int .i64 sy0) := keepc hb' c8_a0_0
  clear c8_a0_0 ac8_a0_0
  have c9_a0_1 : w9.cell? ⟨w.heap.size, 1, none⟩ = some (.int .i64 st0) := keepc hb' c8_a0_1
  clear c8_a0_1 ac8_a0_1
  have c9_a0_2 : w9.cell? ⟨w.heap.size, 2, none⟩ = some (.slice A0 n0 c0) := keepc hb' c8_a0_2
  clear c8_a0_2 ac8_a0_2
  have c9_o21_0 : w9.cell? ⟨w5.heap.size, 0, none⟩ = some (.int .i64 sy0) := keepc hb' c8_o21_0
  clear c8_o21_0 ac8_o21_0
  have c9_o21_1 : w9.cell? ⟨w5.heap.size, 1, none⟩ = some (.int .i64 st0) := keepc hb' c8_o21_1
  clear c8_o21_1 ac8_o21_1
  have c9_o21_2 : w9.cell? ⟨w5.heap.size, 2, none⟩ = some (.slice (some ⟨g020, 0, none⟩) n0 n0) := keepc hb' c8_o21_2
  clear c8_o21_2 ac8_o21_2
  have ac9_a0_0 := fun o => keepa o c9_a0_0
  have ac9_a0_1 := fun o => keepa o c9_a0_1
  have ac9_a0_2 := fun o => keepa o c9_a0_2
  have ac9_o21_0 := fun o => keepa o c9_o21_0
  have ac9_o21_1 := fun o => keepa o c9_o21_1
  have ac9_o21_2 := fun o => keepa o c9_o21_2
  have rP0 := P0.out.below hb'; clear P0; have P0 := Lib.hid rP0; clear rP0
  have rP2 := P2.out.below hb'; clear P2; have P2 := Lib.hid rP2; clear rP2
  have rFo12 := Fo12.out.below hb'; clear Fo12; have Fo12 := Lib.hid rFo12; clear rFo12
  have rFo13 := Fo13.out.below hb'; clear Fo13; have Fo13 := Lib.hid rFo13; clear rFo13
  have rFo19 := Fo19.out.below hb'; clear Fo19; have Fo19 := Lib.hid rFo19; clear rFo19
  have rFo21 := Fo21.out.below hb'; clear Fo21; have Fo21 := Lib.hid rFo21; clear rFo21
  have rFo22 := Fo22.out.below hb'; clear Fo22; have Fo22 := Lib.hid rFo22; clear rFo22
  have rFo28 := Fo28.out.below hb'; clear Fo28; have Fo28 := Lib.hid rFo28; clear rFo28
  have rB := below_chain B.out (by omega) hb'; clear B; have B := Lib.hid rB; clear rB
  have Fo30 := Lib.hid q9; clear q9
  have em9 : Below w8.heap.size w8 w9 := hb'
  clear hb hb'
  go_wp2_with fail
  refine hK _ _ ⟨⟨_, em9⟩, rfl⟩ ?_
  clear hK K
  refine Mix.wpMix_chg (by rfl) (fun K hK => ?_)
  go_wp2_with fail
  refine (eqMachine_t _ _ _ _ _ _ _ _ _ _ (by exact (Fo21.out.rd)) (by exact (Fo30.out.rd)) (by omega)).mono ?_
  rintro e w10 ⟨rfl, hb⟩
  have hb' : Below w9.heap.size w9 w10 := (by first | (with_reducible exact hb) | (with_reducible exact up1 hb) | (with_reducible exact up2 hb) | (with_reducible exact up3 hb) | (with_reducible exact up4 hb) | (with_reducible exact below_of_drew hb) | (with_reducible exact below_of_drew (up1 hb)))
  have z10 := hb'.size
  have c10_a0_0 : w10.cell? ⟨w.heap.size, 0, none⟩ = some (.int .i64 sy0) := keepc hb' c9_a0_0
  clear c9_a0_0 ac9_a0_0
  have c10_a0_1 : w10.cell? ⟨w.heap.size, 1, none⟩ = some (.int .i64 st0) := keepc hb' c9_a0_1
  clear c9_a0_1 ac9_a0_1
  have c10_a0_2 : w10.cell? ⟨w.heap.size, 2, none⟩ = some (.slice A0 n0 c0) := keepc hb' c9_a0_2
  clear c9_a0_2 ac9_a0_2
  have c10_o21_0 : w10.cell? ⟨w5.heap.size, 0, none⟩ = some (.int .i64 sy0) := keepc hb' c9_o21_0
  clear c9_o21_0 ac9_o21_0
  have c10_o21_1 : w10.cell? ⟨w5.heap.size, 1, none⟩ = some (.int .i64 st0) := keepc hb' c9_o21_1
  clear c9_o21_1 ac9_o21_1
  have c10_o21_2 : w10.cell? ⟨w5.heap.size, 2, none⟩ = some (.slice (some ⟨g020, 0, none⟩) n0 n0) := keepc hb' c9_o21_2
  clear c9_o21_2 ac9_o21_2
  have ac10_a0_0 := fun o => keepa o c10_a0_0
  have ac10_a0_1 := fun o => keepa o c10_a0_1
  have ac10_a0_2 := fun o => keepa o c10_a0_2
  have ac10_o21_0 := fun o => keepa o c10_o21_0
  have ac10_o21_1 := fun o => keepa o c10_o21_1
  have ac10_o21_2 := fun o => keepa o c10_o21_2
  have rP0 := P0.out.below hb'; clear P0; have P0 := Lib.hid rP0; clear rP0
  have rP2 := P2.out.below hb'; clear P2; have P2 := Lib.hid rP2; clear rP2
  have rFo12 := Fo12.out.below hb'; clear Fo12; have Fo12 := Lib.hid rFo12; clear rFo12
  have rFo13 := Fo13.out.below hb'; clear Fo13; have Fo13 := Lib.hid rFo13; clear rFo13
  have rFo19 := Fo19.out.below hb'; clear Fo19; have Fo19 := Lib.hid rFo19; clear rFo19
  have rFo21 := Fo21.out.below hb'; clear Fo21; have Fo21 := Lib.hid rFo21; clear rFo21
  have rFo22 := Fo22.out.below hb'; clear Fo22; have Fo22 := Lib.hid rFo22; clear rFo22
  have rFo28 := Fo28.out.below hb'; clear Fo28; have Fo28 := Lib.hid rFo28; clear rFo28
  have rFo30 := Fo30.out.below hb'; clear Fo30; have Fo30 := Lib.hid rFo30; clear rFo30
  have rB := below_chain B.out (by omega) hb'; clear B; have B := Lib.hid rB; clear rB
  have em10 : Below w8.heap.size w8 w10 := below_chain em9 (by omega) hb'
  clear hb hb'
  go_wp2_with fail
  refine hK _ _ ⟨⟨_, em10⟩, rfl⟩ ?_
  clear hK K
  repeat (first | (refine Mix.wpMix_read (by rfl) ?_; go_big_quiet_step (fail); refine wpQuiet_nil ?_) | (refine Mix.wpMix_pure (by rfl) ?_; go_big_quiet_step (fail); refine wpQuiet_nil ?_))
  (refine Mix.wpMix_nil ?_; try simp only [Exit.then])
  clear fx_c8_a0_0
  clear fx_c8_a0_1
  clear fx_c8_a0_2
  clear fx_c8_o21_0
  clear fx_c8_o21_1
  clear fx_c8_o21_2
  clear Fo30
  go_wp2_with fail
  refine (toInt64S_c _ _ _ _ _ (by exact (P2.out.1)) (by omega)).mono ?_
  rintro e w11 ⟨rfl, q11, hb⟩
  have hb' : Below w10.heap.size w10 w11 := (by first | (with_reducible exact hb) | (with_reducible exact up1 hb) | (with_reducible exact up2 hb) | (with_reducible exact up3 hb) | (with_reducible exact up4 hb) | (with_reducible exact below_of_drew hb) | (with_reducible exact below_of_drew (up1 hb)))
  have z11 := hb'.size
  have c11_a0_0 : w11.cell? ⟨w.heap.size, 0, none⟩ = some (.int .i64 sy0) := keepc hb' c10_a0_0
  clear c10_a0_0 ac10_a0_0
  have c11_a0_1 : w11.cell? ⟨w.heap.size, 1, none⟩ = some (.int .i64 st0) := keepc hb' c10_a0_1
  clear c10_a0_1 ac10_a0_1
  have c11_a0_2 : w11.cell? ⟨w.heap.size, 2, none⟩ = some (.slice A0 n0 c0) := keepc hb' c10_a0_2
  clear c10_a0_2 ac10_a0_2
  have c11_o21_0 : w11.cell? ⟨w5.heap.size, 0, none⟩ = some (.int .i64 sy0) := keepc hb' c10_o21_0
  clear c10_o21_0 ac10_o21_0
  have c11_o21_1 : w11.cell? ⟨w5.heap.size, 1, none⟩ = some (.int .i64 st0) := keepc hb' c10_o21_1
  clear c10_o21_1 ac10_o21_1
  have c11_o21_2 : w11.cell? ⟨w5.heap.size, 2, none⟩ = some (.slice (some ⟨g020, 0, none⟩) n0 n0) := keepc hb' c10_o21_2
  clear c10_o21_2 ac10_o21_2
  have ac11_a0_0 := fun o => keepa o c11_a0_0
  have ac11_a0_1 := fun o => keepa o c11_a0_1
  have ac11_a0_2 := fun o => keepa o c11_a0_2
  have ac11_o21_0 := fun o => keepa o c11_o21_0
  have ac11_o21_1 := fun o => keepa o c11_o21_1
  have ac11_o21_2 := fun o => keepa o c11_o21_2
  have rP0 := P0.out.below hb'; clear P0; have P0 := Lib.hid rP0; clear rP0
  have rP2 := P2.out.below hb'; clear P2; have P2 := Lib.hid rP2; clear rP2
  have rFo12 := Fo12.out.below hb'; clear Fo12; have Fo12 := Lib.hid rFo12; clear rFo12
  have rFo13 := Fo13.out.below hb'; clear Fo13; have Fo13 := Lib.hid rFo13; clear rFo13
  have rFo19 := Fo19.out.below hb'; clear Fo19; have Fo19 := Lib.hid rFo19; clear rFo19
  have rFo21 := Fo21.out.below hb'; clear Fo21; have Fo21 := Lib.hid rFo21; clear rFo21
  have rFo22 := Fo22.out.below hb'; clear Fo22; have Fo22 := Lib.hid rFo22; clear rFo22
  have rFo28 := Fo28.out.below hb'; clear Fo28; have Fo28 := Lib.hid rFo28; clear rFo28
  have rB := below_chain B.out (by omega) hb'; clear B; have B := Lib.hid rB; clear rB
  have Fo31 := Lib.hid q11; clear q11
  clear hb hb'
  go_wp2_with fail
  refine (eqInt64S_t _ _ _ _ _ _ _ _ (by exact (Fo22.out.rdI)) (by exact (Fo31.out.rdI)) (by omega)).mono ?_
  rintro e w12 ⟨rfl, hb⟩
  have hb' : Below w11.heap.size w11 w12 := (by first | (with_reducible exact hb) | (with_reducible exact up1 hb) | (with_reducible exact up2 hb) | (with_reducible exact up3 hb) | (with_reducible exact up4 hb) | (with_reducible exact below_of_drew hb) | (with_reducible exact below_of_drew (up1 hb)))
  have z12 := hb'.size
  have c12_a0_0 : w12.cell? ⟨w.heap.size, 0, none⟩ = some (.int .i64 sy0) := keepc hb' c11_a0_0
  clear c11_a0_0 ac11_a0_0
  have c12_a0_1 : w12.cell? ⟨w.heap.size, 1, none⟩ = some (.int .i64 st0) := keepc hb' c11_a0_1
  clear c11_a0_1 ac11_a0_1
  have c12_a0_2 : w12.cell? ⟨w.heap.size, 2, none⟩ = some (.slice A0 n0 c0) := keepc hb' c11_a0_2
  clear c11_a0_2 ac11_a0_2
  have c12_o21_0 : w12.cell? ⟨w5.heap.size, 0, none⟩ = some (.int .i64 sy0) := keepc hb' c11_o21_0
  clear c11_o21_0 ac11_o21_0
  have c12_o21_1 : w12.cell? ⟨w5.heap.size, 1, none⟩ = some (.int .i64 st0) := keepc hb' c11_o21_1
  clear c11_o21_1 ac11_o21_1
  have c12_o21_2 : w12.cell? ⟨w5.heap.size, 2, none⟩ = some (.slice (some ⟨g020, 0, none⟩) n0 n0) := keepc hb' c11_o21_2
  clear c11_o21_2 ac11_o21_2
  have ac12_a0_0 := fun o => keepa o c12_a0_0
  have ac12_a0_1 := fun o => keepa o c12_a0_1
  have ac12_a0_2 := fun o => keepa o c12_a0_2
  have ac12_o21_0 := fun o => keepa o c12_o21_0
  have ac12_o21_1 := fun o => keepa o c12_o21_1
  have ac12_o21_2 := fun o => keepa o c12_o21_2
  have rP0 := P0.out.below hb'; clear P0; have P0 := Lib.hid rP0; clear rP0
  have rP2 := P2.out.below hb'; clear P2; have P2 := Lib.hid rP2; clear rP2
  have rFo12 := Fo12.out.below hb'; clear Fo12; have Fo12 := Lib.hid rFo12; clear rFo12
  have rFo13 := Fo13.out.below hb'; clear Fo13; have Fo13 := Lib.hid rFo13; clear rFo13
  have rFo19 := Fo19.out.below hb'; clear Fo19; have Fo19 := Lib.hid rFo19; clear rFo19
  have rFo21 := Fo21.out.below hb'; clear Fo21; have Fo21 := Lib.hid rFo21; clear rFo21
  have rFo22 := Fo22.out.below hb'; clear Fo22; have Fo22 := Lib.hid rFo22; clear rFo22
  have rFo28 := Fo28.out.below hb'; clear Fo28; have Fo28 := Lib.hid rFo28; clear rFo28
  have rFo31 := Fo31.out.below hb'; clear Fo31; have Fo31 := Lib.hid rFo31; clear rFo31
  have rB := below_chain B.out (by omega) hb'; clear B; have B := Lib.hid rB; clear rB
  clear hb hb'
  go_wp2_with fail
  refine (markMachine_c _ _ _ _ _ _ _ _ _ _ (by exact (Fo21.out)) (by omega) (by omega) (by omega)).mono ?_
  rintro e w13 ⟨rfl, q13, hk⟩
  have hk' : KeepR w4.heap.size w5.heap.size w12 w13 := (by first | (with_reducible exact hk) | (with_reducible exact hk.up1) | (with_reducible exact hk.up1.up1))
  have z13 := hk'.size
  have c13_a0_0 : w13.cell? ⟨w.heap.size, 0, none⟩ = some (.int .i64 sy0) := hk'.cell (by simp <;> omega) c12_a0_0
  clear c12_a0_0 ac12_a0_0
  have c13_a0_1 : w13.cell? ⟨w.heap.size, 1, none⟩ = some (.int .i64 st0) := hk'.cell (by simp <;> omega) c12_a0_1
  clear c12_a0_1 ac12_a0_1
  have c13_a0_2 : w13.cell? ⟨w.heap.size, 2, none⟩ = some (.slice A0 n0 c0) := hk'.cell (by simp <;> omega) c12_a0_2
  clear c12_a0_2 ac12_a0_2
  have c13_o21_0 : w13.cell? ⟨w5.heap.size, 0, none⟩ = some (.int .i64 sy0) := hk'.cell (by simp <;> omega) c12_o21_0
  clear c12_o21_0 ac12_o21_0
  have c13_o21_1 : w13.cell? ⟨w5.heap.size, 1, none⟩ = some (.int .i64 st0) := hk'.cell (by simp <;> omega) c12_o21_1
  clear c12_o21_1 ac12_o21_1
  have c13_o21_2 : w13.cell? ⟨w5.heap.size, 2, none⟩ = some (.slice (some ⟨g020, 0, none⟩) n0 n0) := hk'.cell (by simp <;> omega) c12_o21_2
  clear c12_o21_2 ac12_o21_2
  have ac13_a0_0 := fun o => keepa o c13_a0_0
  have ac13_a0_1 := fun o => keepa o c13_a0_1
  have ac13_a0_2 := fun o => keepa o c13_a0_2
  have ac13_o21_0 := fun o => keepa o c13_o21_0
  have ac13_o21_1 := fun o => keepa o c13_o21_1
  have ac13_o21_2 := fun o => keepa o c13_o21_2
  have rP0 := P0.out.keep hk' (by omega); clear P0; have P0 := Lib.hid rP0; clear rP0
  have rP2 := P2.out.keep hk' (by omega); clear P2; have P2 := Lib.hid rP2; clear rP2
  have rFo12 := Fo12.out.keep hk' (by omega); clear Fo12; have Fo12 := Lib.hid rFo12; clear rFo12
  have rFo13 := Fo13.out.keep hk' (by omega); clear Fo13; have Fo13 := Lib.hid rFo13; clear rFo13
  have rFo19 := Fo19.out.keep hk' (by omega); clear Fo19; have Fo19 := Lib.hid rFo19; clear rFo19
  have rFo21 := q13; clear Fo21; have Fo21 := Lib.hid rFo21; clear rFo21 q13
  have rFo22 := Fo22.out.keep hk' (by omega); clear Fo22; have Fo22 := Lib.hid rFo22; clear rFo22
  have rFo28 := Fo28.out.keep hk' (by omega); clear Fo28; have Fo28 := Lib.hid rFo28; clear rFo28
  have rFo31 := Fo31.out.keep hk' (by omega); clear Fo31; have Fo31 := Lib.hid rFo31; clear rFo31
  have rB := B.out.trans (hk'.below (B := w.heap.size) (by omega) (by omega)); clear B; have B := Lib.hid rB; clear rB
  clear hk hk'
  go_wp2_with fail
  refine (markInt64S_c _ _ _ _ _ _ _ _ (by exact (Fo22.out)) (by omega) (by omega) (by omega)).mono ?_
  rintro e w14 ⟨rfl, q14, hk⟩
  have hk' : KeepR (w5.heap.size + 1) w6.heap.size w13 w14 := (by first | (with_reducible exact hk) | (with_reducible exact hk.up1) | (with_reducible exact hk.up1.up1))
  have z14 := hk'.size
  have c14_a0_0 : w14.cell? ⟨w.heap.size, 0, none⟩ = some (.int .i64 sy0) := hk'.cell (by simp <;> omega) c13_a0_0
  clear c13_a0_0 ac13_a0_0
  have c14_a0_1 : w14.cell? ⟨w.heap.size, 1, none⟩ = some (.int .i64 st0) := hk'.cell (by simp <;> omega) c13_a0_1
  clear c13_a0_1 ac13_a0_1
  have c14_a0_2 : w14.cell? ⟨w.heap.size, 2, none⟩ = some (.slice A0 n0 c0) := hk'.cell (by simp <;> omega) c13_a0_2
  clear c13_a0_2 ac13_a0_2
  have c14_o21_0 : w14.cell? ⟨w5.heap.size, 0, none⟩ = some (.int .i64 sy0) := hk'.cell (by simp <;> omega) c13_o21_0
  clear c13_o21_0 ac13_o21_0
  have c14_o21_1 : w14.cell? ⟨w5.heap.size, 1, none⟩ = some (.int .i64 st0) := hk'.cell (by simp <;> omega) c13_o21_1
  clear c13_o21_1 ac13_o21_1
  have c14_o21_2 : w14.cell? ⟨w5.heap.size, 2, none⟩ = some (.slice (some ⟨g020, 0, none⟩) n0 n0) := hk'.cell (by simp <;> omega) c13_o21_2
  clear c13_o21_2 ac13_o21_2
  have ac14_a0_0 := fun o => keepa o c14_a0_0
  have ac14_a0_1 := fun o => keepa o c14_a0_1
  have ac14_a0_2 := fun o => keepa o c14_a0_2
  have ac14_o21_0 := fun o => keepa o c14_o21_0
  have ac14_o21_1 := fun o => keepa o c14_o21_1
  have ac14_o21_2 := fun o => keepa o c14_o21_2
  have rP0 := P0.out.keep hk' (by omega); clear P0; have P0 := Lib.hid rP0; clear rP0
  have rP2 := P2.out.keep hk' (by omega); clear P2; have P2 := Lib.hid rP2; clear rP2
  have rFo12 := Fo12.out.keep hk' (by omega); clear Fo12; have Fo12 := Lib.hid rFo12; clear rFo12
  have rFo13 := Fo13.out.keep hk' (by omega); clear Fo13; have Fo13 := Lib.hid rFo13; clear rFo13
  have rFo19 := Fo19.out.keep hk' (by omega); clear Fo19; have Fo19 := Lib.hid rFo19; clear rFo19
  have rFo21 := Fo21.out.keep hk' (by omega); clear Fo21; have Fo21 := Lib.hid rFo21; clear rFo21
  have rFo22 := q14; clear Fo22; have Fo22 := Lib.hid rFo22; clear rFo22 q14
  have rFo28 := Fo28.out.keep hk' (by omega); clear Fo28; have Fo28 := Lib.hid rFo28; clear rFo28
  have rFo31 := Fo31.out.keep hk' (by omega); clear Fo31; have Fo31 := Lib.hid rFo31; clear rFo31
  have rB := B.out.trans (hk'.below (B := w.heap.size) (by omega) (by omega)); clear B; have B := Lib.hid rB; clear rB
  clear hk hk'
  go_wp2_with fail
  refine (eqInt64S_t _ _ _ _ _ _ _ _ (by exact (Fo28.out.rdI)) (by exact (Fo19.out.rdI)) (by omega)).mono ?_
  rintro e w15 ⟨rfl, hb⟩
  have hb' : Below w14.heap.size w14 w15 := (by first | (with_reducible exact hb) | (with_reducible exact up1 hb) | (with_reducible exact up2 hb) | (with_reducible exact up3 hb) | (with_reducible exact up4 hb) | (with_reducible exact below_of_drew hb) | (with_reducible exact below_of_drew (up1 hb)))
  have z15 := hb'.size
  have c15_a0_0 : w15.cell? ⟨w.heap.size, 0, none⟩ = some (.int .i64 sy0) := keepc hb' c14_a0_0
  clear c14_a0_0 ac14_a0_0
  have c15_a0_1 : w15.cell? ⟨w.heap.size, 1, none⟩ = some (.int .i64 st0) := keepc hb' c14_a0_1
  clear c14_a0_1 ac14_a0_1
  have c15_a0_2 : w15.cell? ⟨w.heap.size, 2, none⟩ = some (.slice A0 n0 c0) := keepc hb' c14_a0_2
  clear c14_a0_2 ac14_a0_2
  have c15_o21_0 : w15.cell? ⟨w5.heap.size, 0, none⟩ = some (.int .i64 sy0) := keepc hb' c14_o21_0
  clear c14_o21_0 ac14_o21_0
  have c15_o21_1 : w15.cell? ⟨w5.heap.size, 1, none⟩ = some (.int .i64 st0) := keepc hb' c14_o21_1
  clear c14_o21_1 ac14_o21_1
  have c15_o21_2 : w15.cell? ⟨w5.heap.size, 2, none⟩ = some (.slice (some ⟨g020, 0, none⟩) n0 n0) := keepc hb' c14_o21_2
  clear c14_o21_2 ac14_o21_2
  have ac15_a0_0 := fun o => keepa o c15_a0_0
  have ac15_a0_1 := fun o => keepa o c15_a0_1
  have ac15_a0_2 := fun o => keepa o c15_a0_2
  have ac15_o21_0 := fun o => keepa o c15_o21_0
  have ac15_o21_1 := fun o => keepa o c15_o21_1
  have ac15_o21_2 := fun o => keepa o c15_o21_2
  have rP0 := P0.out.below hb'; clear P0; have P0 := Lib.hid rP0; clear rP0
  have rP2 := P2.out.below hb'; clear P2; have P2 := Lib.hid rP2; clear rP2
  have rFo12 := Fo12.out.below hb'; clear Fo12; have Fo12 := Lib.hid rFo12; clear rFo12
  have rFo13 := Fo13.out.below hb'; clear Fo13; have Fo13 := Lib.hid rFo13; clear rFo13
  have rFo19 := Fo19.out.below hb'; clear Fo19; have Fo19 := Lib.hid rFo19; clear rFo19
  have rFo21 := Fo21.out.below hb'; clear Fo21; have Fo21 := Lib.hid rFo21; clear rFo21
  have rFo22 := Fo22.out.below hb'; clear Fo22; have Fo22 := Lib.hid rFo22; clear rFo22
  have rFo28 := Fo28.out.below hb'; clear Fo28; have Fo28 := Lib.hid rFo28; clear rFo28
  have rFo31 := Fo31.out.below hb'; clear Fo31; have Fo31 := Lib.hid rFo31; clear rFo31
  have rB := below_chain B.out (by omega) hb'; clear B; have B := Lib.hid rB; clear rB
  clear hb hb'
  go_wp2_with fail
  refine (markInt64S_c _ _ _ _ _ _ _ _ (by exact (Fo28.out)) (by omega) (by omega) (by omega)).mono ?_
  rintro e w16 ⟨rfl, q16, hk⟩
  have hk' : KeepR w6.heap.size w7.heap.size w15 w16 := (by first | (with_reducible exact hk) | (with_reducible exact hk.up1) | (with_reducible exact hk.up1.up1))
  have z16 := hk'.size
  have c16_a0_0 : w16.cell? ⟨w.heap.size, 0, none⟩ = some (.int .i64 sy0) := hk'.cell (by simp <;> omega) c15_a0_0
  clear c15_a0_0 ac15_a0_0
  have c16_a0_1 : w16.cell? ⟨w.heap.size, 1, none⟩ = some (.int .i64 st0) := hk'.cell (by simp <;> omega) c15_a0_1
  clear c15_a0_1 ac15_a0_1
  have c16_a0_2 : w16.cell? ⟨w.heap.size, 2, none⟩ = some (.slice A0 n0 c0) := hk'.cell (by simp <;> omega) c15_a0_2
  clear c15_a0_2 ac15_a0_2
  have c16_o21_0 : w16.cell? ⟨w5.heap.size, 0, none⟩ = some (.int .i64 sy0) := hk'.cell (by simp <;> omega) c15_o21_0
  clear c15_o21_0 ac15_o21_0
  have c16_o21_1 : w16.cell? ⟨w5.heap.size, 1, none⟩ = some (.int .i64 st0) := hk'.cell (by simp <;> omega) c15_o21_1
  clear c15_o21_1 ac15_o21_1
  have c16_o21_2 : w16.cell? ⟨w5.heap.size, 2, none⟩ = some (.slice (some ⟨g020, 0, none⟩) n0 n0) := hk'.cell (by simp <;> omega) c15_o21_2
  clear c15_o21_2 ac15_o21_2
  have ac16_a0_0 := fun o => keepa o c16_a0_0
  have ac16_a0_1 := fun o => keepa o c16_a0_1
  have ac16_a0_2 := fun o => keepa o c16_a0_2
  have ac16_o21_0 := fun o => keepa o c16_o21_0
  have ac16_o21_1 := fun o => keepa o c16_o21_1
  have ac16_o21_2 := fun o => keepa o c16_o21_2
  have rP0 := P0.out.keep hk' (by omega); clear P0; have P0 := Lib.hid rP0; clear rP0
  have rP2 := P2.out.keep hk' (by omega); clear P2; have P2 := Lib.hid rP2; clear rP2
  have rFo12 := Fo12.out.keep hk' (by omega); clear Fo12; have Fo12 := Lib.hid rFo12; clear rFo12
  have rFo13 := Fo13.out.keep hk' (by omega); clear Fo13; have Fo13 := Lib.hid rFo13; clear rFo13
  have rFo19 := Fo19.out.keep hk' (by omega); clear Fo19; have Fo19 := Lib.hid rFo19; clear rFo19
  have rFo21 := Fo21.out.keep hk' (by omega); clear Fo21; have Fo21 := Lib.hid rFo21; clear rFo21
  have rFo22 := Fo22.out.keep hk' (by omega); clear Fo22; have Fo22 := Lib.hid rFo22; clear rFo22
  have rFo28 := q16; clear Fo28; have Fo28 := Lib.hid rFo28; clear rFo28 q16
  have rFo31 := Fo31.out.keep hk' (by omega); clear Fo31; have Fo31 := Lib.hid rFo31; clear rFo31
  have rB := B.out.trans (hk'.below (B := w.heap.size) (by omega) (by omega)); clear B; have B := Lib.hid rB; clear rB
  clear hk hk'
  go_wp2_with fail
  refine (heldInt64S_c _ _ _ _ _ (by exact (Fo28.out.rdI)) (by omega) (by omega) (by omega)).mono ?_
  rintro e w17 ⟨rfl, hb⟩
  have hb' : Below w16.heap.size w16 w17 := (by first | (with_reducible exact hb) | (with_reducible exact up1 hb) | (with_reducible exact up2 hb) | (with_reducible exact up3 hb) | (with_reducible exact up4 hb) | (with_reducible exact below_of_drew hb) | (with_reducible exact below_of_drew (up1 hb)))
  have z17 := hb'.size
  have c17_a0_0 : w17.cell? ⟨w.heap.size, 0, none⟩ = some (.int .i64 sy0) := keepc hb' c16_a0_0
  clear c16_a0_0 ac16_a0_0
  have c17_a0_1 : w17.cell? ⟨w.heap.size, 1, none⟩ = some (.int .i64 st0) := keepc hb' c16_a0_1
  clear c16_a0_1 ac16_a0_1
  have c17_a0_2 : w17.cell? ⟨w.heap.size, 2, none⟩ = some (.slice A0 n0 c0) := keepc hb' c16_a0_2
  clear c16_a0_2 ac16_a0_2
  have c17_o21_0 : w17.cell? ⟨w5.heap.size, 0, none⟩ = some (.int .i64 sy0) := keepc hb' c16_o21_0
  clear c16_o21_0 ac16_o21_0
  have c17_o21_1 : w17.cell? ⟨w5.heap.size, 1, none⟩ = some (.int .i64 st0) := keepc hb' c16_o21_1
  clear c16_o21_1 ac16_o21_1
  have c17_o21_2 : w17.cell? ⟨w5.heap.size, 2, none⟩ = some (.slice (some ⟨g020, 0, none⟩) n0 n0) := keepc hb' c16_o21_2
  clear c16_o21_2 ac16_o21_2
  have ac17_a0_0 := fun o => keepa o c17_a0_0
  have ac17_a0_1 := fun o => keepa o c17_a0_1
  have ac17_a0_2 := fun o => keepa o c17_a0_2
  have ac17_o21_0 := fun o => keepa o c17_o21_0
  have ac17_o21_1 := fun o => keepa o c17_o21_1
  have ac17_o21_2 := fun o => keepa o c17_o21_2
  have rP0 := P0.out.below hb'; clear P0; have P0 := Lib.hid rP0; clear rP0
  have rP2 := P2.out.below hb'; clear P2; have P2 := Lib.hid rP2; clear rP2
  have rFo12 := Fo12.out.below hb'; clear Fo12; have Fo12 := Lib.hid rFo12; clear rFo12
  have rFo13 := Fo13.out.below hb'; clear Fo13; have Fo13 := Lib.hid rFo13; clear rFo13
  have rFo19 := Fo19.out.below hb'; clear Fo19; have Fo19 := Lib.hid rFo19; clear rFo19
  have rFo21 := Fo21.out.below hb'; clear Fo21; have Fo21 := Lib.hid rFo21; clear rFo21
  have rFo22 := Fo22.out.below hb'; clear Fo22; have Fo22 := Lib.hid rFo22; clear rFo22
  have rFo28 := Fo28.out.below hb'; clear Fo28; have Fo28 := Lib.hid rFo28; clear rFo28
  have rFo31 := Fo31.out.below hb'; clear Fo31; have Fo31 := Lib.hid rFo31; clear rFo31
  have rB := below_chain B.out (by omega) hb'; clear B; have B := Lib.hid rB; clear rB
  clear hb hb'
  go_wp2_with fail
  refine (toMachine_c _ _ _ _ _ _ _ (by exact (P0.out.rd)) (by omega)).mono ?_
  rintro e w18 ⟨g032, rfl, q18, hb⟩
  have hb' : Below w17.heap.size w17 w18 := (by first | (with_reducible exact hb) | (with_reducible exact up1 hb) | (with_reducible exact up2 hb) | (with_reducible exact up3 hb) | (with_reducible exact up4 hb) | (with_reducible exact below_of_drew hb) | (with_reducible exact below_of_drew (up1 hb)))
  have z18 := hb'.size
  have c18_a0_0 : w18.cell? ⟨w.heap.size, 0, none⟩ = some (.int .i64 sy0) := keepc hb' c17_a0_0
  clear c17_a0_0 ac17_a0_0
  have c18_a0_1 : w18.cell? ⟨w.heap.size, 1, none⟩ = some (.int .i64 st0) := keepc hb' c17_a0_1
  clear c17_a0_1 ac17_a0_1
  have c18_a0_2 : w18.cell? ⟨w.heap.size, 2, none⟩ = some (.slice A0 n0 c0) := keepc hb' c17_a0_2
  clear c17_a0_2 ac17_a0_2
  have c18_o21_0 : w18.cell? ⟨w5.heap.size, 0, none⟩ = some (.int .i64 sy0) := keepc hb' c17_o21_0
  clear c17_o21_0 ac17_o21_0
  have c18_o21_1 : w18.cell? ⟨w5.heap.size, 1, none⟩ = some (.int .i64 st0) := keepc hb' c17_o21_1
  clear c17_o21_1 ac17_o21_1
  have c18_o21_2 : w18.cell? ⟨w5.heap.size, 2, none⟩ = some (.slice (some ⟨g020, 0, none⟩) n0 n0) := keepc hb' c17_o21_2
  clear c17_o21_2 ac17_o21_2
  have ac18_a0_0 := fun o => keepa o c18_a0_0
  have ac18_a0_1 := fun o => keepa o c18_a0_1
  have ac18_a0_2 := fun o => keepa o c18_a0_2
  have ac18_o21_0 := fun o => keepa o c18_o21_0
  have ac18_o21_1 := fun o => keepa o c18_o21_1
  have ac18_o21_2 := fun o => keepa o c18_o21_2
  have rP0 := P0.out.below hb'; clear P0; have P0 := Lib.hid rP0; clear rP0
  have rP2 := P2.out.below hb'; clear P2; have P2 := Lib.hid rP2; clear rP2
  have rFo12 := Fo12.out.below hb'; clear Fo12; have Fo12 := Lib.hid rFo12; clear rFo12
  have rFo13 := Fo13.out.below hb'; clear Fo13; have Fo13 := Lib.hid rFo13; clear rFo13
  have rFo19 := Fo19.out.below hb'; clear Fo19; have Fo19 := Lib.hid rFo19; clear rFo19
  have rFo21 := Fo21.out.below hb'; clear Fo21; have Fo21 := Lib.hid rFo21; clear rFo21
  have rFo22 := Fo22.out.below hb'; clear Fo22; have Fo22 := Lib.hid rFo22; clear rFo22
  have rFo28 := Fo28.out.below hb'; clear Fo28; have Fo28 := Lib.hid rFo28; clear rFo28
  have rFo31 := Fo31.out.below hb'; clear Fo31; have Fo31 := Lib.hid rFo31; clear rFo31
  have rB := below_chain B.out (by omega) hb'; clear B; have B := Lib.hid rB; clear rB
  have Fo33 := Lib.hid q18; clear q18
  clear hb hb'
  go_wp2_with fail
  refine (toInt64S_c _ _ _ _ _ (by exact (P2.out.1)) (by omega)).mono ?_
  rintro e w19 ⟨rfl, q19, hb⟩
  have hb' : Below w18.heap.size w18 w19 := (by first | (with_reducible exact hb) | (with_reducible exact up1 hb) | (with_reducible exact up2 hb) | (with_reducible exact up3 hb) | (with_reducible exact up4 hb) | (with_reducible exact below_of_drew hb) | (with_reducible exact below_of_drew (up1 hb)))
  have z19 := hb'.size
  have c19_a0_0 : w19.cell? ⟨w.heap.size, 0, none⟩ = some (.int .i64 sy0) := keepc hb' c18_a0_0
  clear c18_a0_0 ac18_a0_0
  have c19_a0_1 : w19.cell? ⟨w.heap.size, 1, none⟩ = some (.int .i64 st0) := keepc hb' c18_a0_1
  clear c18_a0_1 ac18_a0_1
  have c19_a0_2 : w19.cell? ⟨w.heap.size, 2, none⟩ = some (.slice A0 n0 c0) := keepc hb' c18_a0_2
  clear c18_a0_2 ac18_a0_2
  have c19_o21_0 : w19.cell? ⟨w5.heap.size, 0, none⟩ = some (.int .i64 sy0) := keepc hb' c18_o21_0
  clear c18_o21_0 ac18_o21_0
  have c19_o21_1 : w19.cell? ⟨w5.heap.size, 1, none⟩ = some (.int .i64 st0) := keepc hb' c18_o21_1
  clear c18_o21_1 ac18_o21_1
  have c19_o21_2 : w19.cell? ⟨w5.heap.size, 2, none⟩ = some (.slice (some ⟨g020, 0, none⟩) n0 n0) := keepc hb' c18_o21_2
  clear c18_o21_2 ac18_o21_2
  have ac19_a0_0 := fun o => keepa o c19_a0_0
  have ac19_a0_1 := fun o => keepa o c19_a0_1
  have ac19_a0_2 := fun o => keepa o c19_a0_2
  have ac19_o21_0 := fun o => keepa o c19_o21_0
  have ac19_o21_1 := fun o => keepa o c19_o21_1
  have ac19_o21_2 := fun o => keepa o c19_o21_2
  have rP0 := P0.out.below hb'; clear P0; have P0 := Lib.hid rP0; clear rP0
  have rP2 := P2.out.below hb'; clear P2; have P2 := Lib.hid rP2; clear rP2
  have rFo12 := Fo12.out.below hb'; clear Fo12; have Fo12 := Lib.hid rFo12; clear rFo12
  have rFo13 := Fo13.out.below hb'; clear Fo13; have Fo13 := Lib.hid rFo13; clear rFo13
  have rFo19 := Fo19.out.below hb'; clear Fo19; have Fo19 := Lib.hid rFo19; clear rFo19
  have rFo21 := Fo21.out.below hb'; clear Fo21; have Fo21 := Lib.hid rFo21; clear rFo21
  have rFo22 := Fo22.out.below hb'; clear Fo22; have Fo22 := Lib.hid rFo22; clear rFo22
  have rFo28 := Fo28.out.below hb'; clear Fo28; have Fo28 := Lib.hid rFo28; clear rFo28
  have rFo31 := Fo31.out.below hb'; clear Fo31; have Fo31 := Lib.hid rFo31; clear rFo31
  have rFo33 := Fo33.out.below hb'; clear Fo33; have Fo33 := Lib.hid rFo33; clear rFo33
  have rB := below_chain B.out (by omega) hb'; clear B; have B := Lib.hid rB; clear rB
  have Fo34 := Lib.hid q19; clear q19
  clear hb hb'
  go_wp2_with fail
  refine (iShiftOver_c _ _ _ _ _ _ _ _ _ _ _ _ _ (by exact (Fo33.out.rd)) (by exact (Fo34.out.rdI)) (by omega) (by omega)).mono ?_
  rintro e w20 ⟨A35, n36, c37, rfl, q38, l39, hb⟩
  have hb' : Below w19.heap.size w19 w20 := (by first | (with_reducible exact hb) | (with_reducible exact up1 hb) | (with_reducible exact up2 hb) | (with_reducible exact up3 hb) | (with_reducible exact up4 hb) | (with_reducible exact below_of_drew hb) | (with_reducible exact below_of_drew (up1 hb)))
  have z20 := hb'.size
  have c20_a0_0 : w20.cell? ⟨w.heap.size, 0, none⟩ = some (.int .i64 sy0) := keepc hb' c19_a0_0
  clear c19_a0_0 ac19_a0_0
  have c20_a0_1 : w20.cell? ⟨w.heap.size, 1, none⟩ = some (.int .i64 st0) := keepc hb' c19_a0_1
  clear c19_a0_1 ac19_a0_1
  have c20_a0_2 : w20.cell? ⟨w.heap.size, 2, none⟩ = some (.slice A0 n0 c0) := keepc hb' c19_a0_2
  clear c19_a0_2 ac19_a0_2
  have c20_o21_0 : w20.cell? ⟨w5.heap.size, 0, none⟩ = some (.int .i64 sy0) := keepc hb' c19_o21_0
  clear c19_o21_0 ac19_o21_0
  have c20_o21_1 : w20.cell? ⟨w5.heap.size, 1, none⟩ = some (.int .i64 st0) := keepc hb' c19_o21_1
  clear c19_o21_1 ac19_o21_1
  have c20_o21_2 : w20.cell? ⟨w5.heap.size, 2, none⟩ = some (.slice (some ⟨g020, 0, none⟩) n0 n0) := keepc hb' c19_o21_2
  clear c19_o21_2 ac19_o21_2
  have ac20_a0_0 := fun o => keepa o c20_a0_0
  have ac20_a0_1 := fun o => keepa o c20_a0_1
  have ac20_a0_2 := fun o => keepa o c20_a0_2
  have ac20_o21_0 := fun o => keepa o c20_o21_0
  have ac20_o21_1 := fun o => keepa o c20_o21_1
  have ac20_o21_2 := fun o => keepa o c20_o21_2
  have rP0 := P0.out.below hb'; clear P0; have P0 := Lib.hid rP0; clear rP0
  have rP2 := P2.out.below hb'; clear P2; have P2 := Lib.hid rP2; clear rP2
  have rFo12 := Fo12.out.below hb'; clear Fo12; have Fo12 := Lib.hid rFo12; clear rFo12
  have rFo13 := Fo13.out.below hb'; clear Fo13; have Fo13 := Lib.hid rFo13; clear rFo13
  have rFo19 := Fo19.out.below hb'; clear Fo19; have Fo19 := Lib.hid rFo19; clear rFo19
  have rFo21 := Fo21.out.below hb'; clear Fo21; have Fo21 := Lib.hid rFo21; clear rFo21
  have rFo22 := Fo22.out.below hb'; clear Fo22; have Fo22 := Lib.hid rFo22; clear rFo22
  have rFo28 := Fo28.out.below hb'; clear Fo28; have Fo28 := Lib.hid rFo28; clear rFo28
  have rFo31 := Fo31.out.below hb'; clear Fo31; have Fo31 := Lib.hid rFo31; clear rFo31
  have rFo33 := Fo33.out.below hb'; clear Fo33; have Fo33 := Lib.hid rFo33; clear rFo33
  have rFo34 := Fo34.out.below hb'; clear Fo34; have Fo34 := Lib.hid rFo34; clear rFo34
  have rB := below_chain B.out (by omega) hb'; clear B; have B := Lib.hid rB; clear rB
  have Fo40 := Lib.hid q38; clear q38
  clear hb hb'
  go_wp2_with fail
  refine (eqInt64S_t _ _ _ _ _ _ _ _ (by exact (Fo40.out.rdI)) (by exact (Fo19.out.rdI)) (by omega)).mono ?_
  rintro e w21 ⟨rfl, hb⟩
  have hb' : Below w20.heap.size w20 w21 := (by first | (with_reducible exact hb) | (with_reducible exact up1 hb) | (with_reducible exact up2 hb) | (with_reducible exact up3 hb) | (with_reducible exact up4 hb) | (with_reducible exact below_of_drew hb) | (with_reducible exact below_of_drew (up1 hb)))
  have z21 := hb'.size
  have c21_a0_0 : w21.cell? ⟨w.heap.size, 0, none⟩ = some (.int .i64 sy0) := keepc hb' c20_a0_0
  clear c20_a0_0 ac20_a0_0
  have c21_a0_1 : w21.cell? ⟨w.heap.size, 1, none⟩ = some (.int .i64 st0) := keepc hb' c20_a0_1
  clear c20_a0_1 ac20_a0_1
  have c21_a0_2 : w21.cell? ⟨w.heap.size, 2, none⟩ = some (.slice A0 n0 c0) := keepc hb' c20_a0_2
  clear c20_a0_2 ac20_a0_2
  have c21_o21_0 : w21.cell? ⟨w5.heap.size, 0, none⟩ = some (.int .i64 sy0) := keepc hb' c20_o21_0
  clear c20_o21_0 ac20_o21_0
  have c21_o21_1 : w21.cell? ⟨w5.heap.size, 1, none⟩ = some (.int .i64 st0) := keepc hb' c20_o21_1
  clear c20_o21_1 ac20_o21_1
  have c21_o21_2 : w21.cell? ⟨w5.heap.size, 2, none⟩ = some (.slice (some ⟨g020, 0, none⟩) n0 n0) := keepc hb' c20_o21_2
  clear c20_o21_2 ac20_o21_2
  have ac21_a0_0 := fun o => keepa o c21_a0_0
  have ac21_a0_1 := fun o => keepa o c21_a0_1
  have ac21_a0_2 := fun o => keepa o c21_a0_2
  have ac21_o21_0 := fun o => keepa o c21_o21_0
  have ac21_o21_1 := fun o => keepa o c21_o21_1
  have ac21_o21_2 := fun o => keepa o c21_o21_2
  have rP0 := P0.out.below hb'; clear P0; have P0 := Lib.hid rP0; clear rP0
  have rP2 := P2.out.below hb'; clear P2; have P2 := Lib.hid rP2; clear rP2
  have rFo12 := Fo12.out.below hb'; clear Fo12; have Fo12 := Lib.hid rFo12; clear rFo12
  have rFo13 := Fo13.out.below hb'; clear Fo13; have Fo13 := Lib.hid rFo13; clear rFo13
  have rFo19 := Fo19.out.below hb'; clear Fo19; have Fo19 := Lib.hid rFo19; clear rFo19
  have rFo21 := Fo21.out.below hb'; clear Fo21; have Fo21 := Lib.hid rFo21; clear rFo21
  have rFo22 := Fo22.out.below hb'; clear Fo22; have Fo22 := Lib.hid rFo22; clear rFo22
  have rFo28 := Fo28.out.below hb'; clear Fo28; have Fo28 := Lib.hid rFo28; clear rFo28
  have rFo31 := Fo31.out.below hb'; clear Fo31; have Fo31 := Lib.hid rFo31; clear rFo31
  have rFo33 := Fo33.out.below hb'; clear Fo33; have Fo33 := Lib.hid rFo33; clear rFo33
  have rFo34 := Fo34.out.below hb'; clear Fo34; have Fo34 := Lib.hid rFo34; clear rFo34
  have rFo40 := Fo40.out.below hb'; clear Fo40; have Fo40 := Lib.hid rFo40; clear rFo40
  have rB := below_chain B.out (by omega) hb'; clear B; have B := Lib.hid rB; clear rB
  clear hb hb'
  go_wp2_with fail
  refine (heldInt64S_c _ _ _ _ _ (by exact (Fo28.out.rdI)) (by omega) (by omega) (by omega)).mono ?_
  rintro e w22 ⟨rfl, hb⟩
  have hb' : Below w21.heap.size w21 w22 := (by first | (with_reducible exact hb) | (with_reducible exact up1 hb) | (with_reducible exact up2 hb) | (with_reducible exact up3 hb) | (with_reducible exact up4 hb) | (with_reducible exact below_of_drew hb) | (with_reducible exact below_of_drew (up1 hb)))
  have z22 := hb'.size
  have c22_a0_0 : w22.cell? ⟨w.heap.size, 0, none⟩ = some (.int .i64 sy0) := keepc hb' c21_a0_0
  clear c21_a0_0 ac21_a0_0
  have c22_a0_1 : w22.cell? ⟨w.heap.size, 1, none⟩ = some (.int .i64 st0) := keepc hb' c21_a0_1
  clear c21_a0_1 ac21_a0_1
  have c22_a0_2 : w22.cell? ⟨w.heap.size, 2, none⟩ = some (.slice A0 n0 c0) := keepc hb' c21_a0_2
  clear c21_a0_2 ac21_a0_2
  have c22_o21_0 : w22.cell? ⟨w5.heap.size, 0, none⟩ = some (.int .i64 sy0) := keepc hb' c21_o21_0
  clear c21_o21_0 ac21_o21_0
  have c22_o21_1 : w22.cell? ⟨w5.heap.size, 1, none⟩ = some (.int .i64 st0) := keepc hb' c21_o21_1
  clear c21_o21_1 ac21_o21_1
  have c22_o21_2 : w22.cell? ⟨w5.heap.size, 2, none⟩ = some (.slice (some ⟨g020, 0, none⟩) n0 n0) := keepc hb' c21_o21_2
  clear c21_o21_2 ac21_o21_2
  have ac22_a0_0 := fun o => keepa o c22_a0_0
  have ac22_a0_1 := fun o => keepa o c22_a0_1
  have ac22_a0_2 := fun o => keepa o c22_a0_2
  have ac22_o21_0 := fun o => keepa o c22_o21_0
  have ac22_o21_1 := fun o => keepa o c22_o21_1
  have ac22_o21_2 := fun o => keepa o c22_o21_2
  have rP0 := P0.out.below hb'; clear P0; have P0 := Lib.hid rP0; clear rP0
  have rP2 := P2.out.below hb'; clear P2; have P2 := Lib.hid rP2; clear rP2
  have rFo12 := Fo12.out.below hb'; clear Fo12; have Fo12 := Lib.hid rFo12; clear rFo12
  have rFo13 := Fo13.out.below hb'; clear Fo13; have Fo13 := Lib.hid rFo13; clear rFo13
  have rFo19 := Fo19.out.below hb'; clear Fo19; have Fo19 := Lib.hid rFo19; clear rFo19
  have rFo21 := Fo21.out.below hb'; clear Fo21; have Fo21 := Lib.hid rFo21; clear rFo21
  have rFo22 := Fo22.out.below hb'; clear Fo22; have Fo22 := Lib.hid rFo22; clear rFo22
  have rFo28 := Fo28.out.below hb'; clear Fo28; have Fo28 := Lib.hid rFo28; clear rFo28
  have rFo31 := Fo31.out.below hb'; clear Fo31; have Fo31 := Lib.hid rFo31; clear rFo31
  have rFo33 := Fo33.out.below hb'; clear Fo33; have Fo33 := Lib.hid rFo33; clear rFo33
  have rFo34 := Fo34.out.below hb'; clear Fo34; have Fo34 := Lib.hid rFo34; clear rFo34
  have rFo40 := Fo40.out.below hb'; clear Fo40; have Fo40 := Lib.hid rFo40; clear rFo40
  have rB := below_chain B.out (by omega) hb'; clear B; have B := Lib.hid rB; clear rB
  clear hb hb'
  go_wp2
  go_ret
  exact ⟨rfl, B.out⟩
end Go.Proofs.Ytdnicjeadpefnaa
