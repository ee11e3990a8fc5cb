/-
  FnExactReadDfa returns true for every input: its walk, out of the contracts.
-/
import Derived.Test.YtdendllginlidaaDoorLawI
import Derived.Test.YtdendllginlidaaDoorLawDfa
import Derived.Test.YtdendllginlidaaDoorCSk
import Derived.Test.YtdendllginlidaaDoorOpen
namespace Go.Proofs.YtdendllginlidaaDoor
open Go.RowKit

set_option maxHeartbeats 4000000 in
set_option maxRecDepth 100000 in
theorem walkReadDfa (x0 : ByteArray) (x1 : Int) (w : World) (_o0 : x0.size ≤ maxLen) (_o1 : i64ok x1) (hT : LibS w) :
    Calls Tryd.prog 3 #[.string x0, .int .i64 x1] w fun e w' => e = .returned (.bool true) ∧ Below w.heap.size w w' := by
  have HTB := Lib.hid hT; clear hT
  obtain ⟨RR, hRR⟩ : ∃ RR, dfV (sdR x0.data.toList x1) = RR := ⟨_, rfl⟩; have HRR := Lib.hid hRR; clear hRR
  by_cases hsx0 : 1048576 < x0.size
  · go_enter Tryd.func3, Tryd.ntmps3
    go_wp2
    go_ret
    exact ⟨rfl, below_size⟩
  go_enter Tryd.func3, Tryd.ntmps3
  go_wp2_with fail
  refine (sReadDfa_c _ _ _ HRR.out _ (by omega)).mono ?_
  rintro e w1 ⟨A11, n12, c13, rfl, q14, l15, hb⟩
  have hb' : Below w.heap.size w w1 := (by first | (with_reducible exact hb) | (with_reducible exact up1 hb) | (with_reducible exact up2 hb) | (with_reducible exact up3 hb) | (with_reducible exact up4 hb) | (with_reducible exact below_of_drew hb) | (with_reducible exact below_of_drew (up1 hb)))
  have z1 := hb'.size
  have rB := hb'; have B := Lib.hid rB; clear rB
  have Fo16 := Lib.hid q14; clear q14
  clear hb hb'
  go_wp2_with fail
  refine (iReadDfa_c _ _ _ HRR.out _ (by omega) (by exact (((HTB.out.below B.out)).alloc _))).mono ?_
  rintro e w2 ⟨A17, n18, c19, rfl, q20, l21, hb⟩
  try simp only [World.size_alloc] at q20
  have hb' : Below w1.heap.size w1 w2 := (by first | (with_reducible exact hb) | (with_reducible exact up1 hb) | (with_reducible exact up2 hb) | (with_reducible exact up3 hb) | (with_reducible exact up4 hb) | (with_reducible exact below_of_drew hb) | (with_reducible exact below_of_drew (up1 hb)))
  have z2 := hb'.size
  have c2_o16_0 : w2.cell? ⟨w1.heap.size, 0, none⟩ = some (.int .i64 RR.1.1) := keepc hb (by first | (simp; done) | (rw [World.cell?_alloc_past _ _ _ (by simp <;> omega)]; simp; done) | (rw [World.cell?_alloc_past _ _ _ (by simp <;> omega), World.cell?_alloc_past _ _ _ (by simp <;> omega)]; simp; done) | (rw [World.cell?_alloc_past _ _ _ (by simp <;> omega), World.cell?_alloc_past _ _ _ (by simp <;> omega), World.cell?_alloc_past _ _ _ (by simp <;> omega)]; simp; done) | (rw [World.cell?_alloc_at _ _ _ _ (by simp)]; simp; done) | (rw [World.cell?_alloc_past _ _ _ (by simp <;> omega), World.cell?_alloc_at _ _ _ _ (by simp)]; simp; done) | (rw [World.cell?_alloc_past _ _ _ (by simp <;> omega), World.cell?_alloc_past _ _ _ (by simp <;> omega), World.cell?_alloc_at _ _ _ _ (by simp)]; simp; done) | (rw [World.cell?_alloc_past _ _ _ (by simp <;> omega), World.cell?_alloc_past _ _ _ (by simp <;> omega), World.cell?_alloc_past _ _ _ (by simp <;> omega), World.cell?_alloc_at _ _ _ _ (by simp)]; simp; done))
  have hl_c2_o16_0 : w1.heap.size < w2.heap.size := World.block_lt_of_cell? w2 _ c2_o16_0
  have c2_o16_1 : w2.cell? ⟨w1.heap.size, 1, none⟩ = some (.slice A11 n12 c13) := keepc hb (by first | (simp; done) | (rw [World.cell?_alloc_past _ _ _ (by simp <;> omega)]; simp; done) | (rw [World.cell?_alloc_past _ _ _ (by simp <;> omega), World.cell?_alloc_past _ _ _ (by simp <;> omega)]; simp; done) | (rw [World.cell?_alloc_past _ _ _ (by simp <;> omega), World.cell?_alloc_past _ _ _ (by simp <;> omega), World.cell?_alloc_past _ _ _ (by simp <;> omega)]; simp; done) | (rw [World.cell?_alloc_at _ _ _ _ (by simp)]; simp; done) | (rw [World.cell?_alloc_past _ _ _ (by simp <;> omega), World.cell?_alloc_at _ _ _ _ (by simp)]; simp; done) | (rw [World.cell?_alloc_past _ _ _ (by simp <;> omega), World.cell?_alloc_past _ _ _ (by simp <;> omega), World.cell?_alloc_at _ _ _ _ (by simp)]; simp; done) | (rw [World.cell?_alloc_past _ _ _ (by simp <;> omega), World.cell?_alloc_past _ _ _ (by simp <;> omega), World.cell?_alloc_past _ _ _ (by simp <;> omega), World.cell?_alloc_at _ _ _ _ (by simp)]; simp; done))
  have ac2_o16_0 := fun o => keepa o c2_o16_0
  have ac2_o16_1 := fun o => keepa o c2_o16_1
  have rFo16 := Fo16.out.below hb'; clear Fo16; have Fo16 := Lib.hid rFo16; clear rFo16
  have rB := below_chain B.out (by omega) hb'; clear B; have B := Lib.hid rB; clear rB
  have Fo22 := Lib.hid q20; clear q20
  clear hb hb'
  go_wp2_with fail
  refine (eqDfa_t _ _ _ _ _ _ _ _ _ (by exact ((Fo22.out.rdI).alloc _)) (by exact ((Fo16.out.rdI).alloc _)) (by omega)).mono ?_
  rintro e w3 ⟨rfl, hb⟩
  have hb' : Below w2.heap.size w2 w3 := (by first | (with_reducible exact hb) | (with_reducible exact up1 hb) | (with_reducible exact up2 hb) | (with_reducible exact up3 hb) | (with_reducible exact up4 hb) | (with_reducible exact below_of_drew hb) | (with_reducible exact below_of_drew (up1 hb)))
  have z3 := hb'.size
  have c3_o16_0 : w3.cell? ⟨w1.heap.size, 0, none⟩ = some (.int .i64 RR.1.1) := keepc hb' c2_o16_0
  clear c2_o16_0 ac2_o16_0
  have c3_o16_1 : w3.cell? ⟨w1.heap.size, 1, none⟩ = some (.slice A11 n12 c13) := keepc hb' c2_o16_1
  clear c2_o16_1 ac2_o16_1
  have c3_o22_0 : w3.cell? ⟨w2.heap.size, 0, none⟩ = some (.int .i64 RR.1.1) := keepc hb (by first | (simp; done) | (rw [World.cell?_alloc_past _ _ _ (by simp <;> omega)]; simp; done) | (rw [World.cell?_alloc_past _ _ _ (by simp <;> omega), World.cell?_alloc_past _ _ _ (by simp <;> omega)]; simp; done) | (rw [World.cell?_alloc_past _ _ _ (by simp <;> omega), World.cell?_alloc_past _ _ _ (by simp <;> omega), World.cell?_alloc_past _ _ _ (by simp <;> omega)]; simp; done) | (rw [World.cell?_alloc_at _ _ _ _ (by simp)]; simp; done) | (rw [World.cell?_alloc_past _ _ _ (by simp <;> omega), World.cell?_alloc_at _ _ _ _ (by simp)]; simp; done) | (rw [World.cell?_alloc_past _ _ _ (by simp <;> omega), World.cell?_alloc_past _ _ _ (by simp <;> omega), World.cell?_alloc_at _ _ _ _ (by simp)]; simp; done) | (rw [World.cell?_alloc_past _ _ _ (by simp <;> omega), World.cell?_alloc_past _ _ _ (by simp <;> omega), World.cell?_alloc_past _ _ _ (by simp <;> omega), World.cell?_alloc_at _ _ _ _ (by simp)]; simp; done))
  have hl_c3_o22_0 : w2.heap.size < w3.heap.size := World.block_lt_of_cell? w3 _ c3_o22_0
  have c3_o22_1 : w3.cell? ⟨w2.heap.size, 1, none⟩ = some (.slice A17 n18 c19) := keepc hb (by first | (simp; done) | (rw [World.cell?_alloc_past _ _ _ (by simp <;> omega)]; simp; done) | (rw [World.cell?_alloc_past _ _ _ (by simp <;> omega), World.cell?_alloc_past _ _ _ (by simp <;> omega)]; simp; done) | (rw [World.cell?_alloc_past _ _ _ (by simp <;> omega), World.cell?_alloc_past _ _ _ (by simp <;> omega), World.cell?_alloc_past _ _ _ (by simp <;> omega)]; simp; done) | (rw [World.cell?_alloc_at _ _ _ _ (by simp)]; simp; done) | (rw [World.cell?_alloc_past _ _ _ (by simp <;> omega), World.cell?_alloc_at _ _ _ _ (by simp)]; simp; done) | (rw [World.cell?_alloc_past _ _ _ (by simp <;> omega), World.cell?_alloc_past _ _ _ (by simp <;> omega), World.cell?_alloc_at _ _ _ _ (by simp)]; simp; done) | (rw [World.cell?_alloc_past _ _ _ (by simp <;> omega), World.cell?_alloc_past _ _ _ (by simp <;> omega), World.cell?_alloc_past _ _ _ (by simp <;> omega), World.cell?_alloc_at _ _ _ _ (by simp)]; simp; done))
  have ac3_o16_0 := fun o => keepa o c3_o16_0
  have ac3_o16_1 := fun o => keepa o c3_o16_1
  have ac3_o22_0 := fun o => keepa o c3_o22_0
  have ac3_o22_1 := fun o => keepa o c3_o22_1
  have rFo16 := Fo16.out.below hb'; clear Fo16; have Fo16 := Lib.hid rFo16; clear rFo16
  have rFo22 := Fo22.out.below hb'; clear Fo22; have Fo22 := Lib.hid rFo22; clear rFo22
  have rB := below_chain B.out (by omega) hb'; clear B; have B := Lib.hid rB; clear rB
  clear hb hb'
  go_wp2_with fail
  refine (markDfa_c _ _ _ _ _ _ _ _ _ (by exact (Fo22.out)) (by omega) (by omega) (by omega)).mono ?_
  rintro e w4 ⟨rfl, q4, hk⟩
  have hk' : KeepR (w1.heap.size + 1) w2.heap.size w3 w4 := (by first | (with_reducible exact hk) | (with_reducible exact hk.up1) | (with_reducible exact hk.up1.up1))
  have z4 := hk'.size
  have c4_o16_0 : w4.cell? ⟨w1.heap.size, 0, none⟩ = some (.int .i64 RR.1.1) := hk'.cell (by simp <;> omega) c3_o16_0
  clear c3_o16_0 ac3_o16_0
  have c4_o16_1 : w4.cell? ⟨w1.heap.size, 1, none⟩ = some (.slice A11 n12 c13) := hk'.cell (by simp <;> omega) c3_o16_1
  clear c3_o16_1 ac3_o16_1
  have c4_o22_0 : w4.cell? ⟨w2.heap.size, 0, none⟩ = some (.int .i64 RR.1.1) := hk'.cell (by simp <;> omega) c3_o22_0
  clear c3_o22_0 ac3_o22_0
  have c4_o22_1 : w4.cell? ⟨w2.heap.size, 1, none⟩ = some (.slice A17 n18 c19) := hk'.cell (by simp <;> omega) c3_o22_1
  clear c3_o22_1 ac3_o22_1
  have ac4_o16_0 := fun o => keepa o c4_o16_0
  have ac4_o16_1 := fun o => keepa o c4_o16_1
  have ac4_o22_0 := fun o => keepa o c4_o22_0
  have ac4_o22_1 := fun o => keepa o c4_o22_1
  have rFo16 := Fo16.out.keep hk' (by omega); clear Fo16; have Fo16 := Lib.hid rFo16; clear rFo16
  have rFo22 := q4; clear Fo22; have Fo22 := Lib.hid rFo22; clear rFo22 q4
  have rB := B.out.trans (hk'.below (B := w.heap.size) (by omega) (by omega)); clear B; have B := Lib.hid rB; clear rB
  clear hk hk'
  go_wp2_with fail
  refine (heldDfa_c _ _ _ _ _ _ (by exact (Fo22.out.rdI)) (by omega) (by omega) (by omega)).mono ?_
  rintro e w5 ⟨rfl, hb⟩
  have hb' : Below w4.heap.size w4 w5 := (by first | (with_reducible exact hb) | (with_reducible exact up1 hb) | (with_reducible exact up2 hb) | (with_reducible exact up3 hb) | (with_reducible exact up4 hb) | (with_reducible exact below_of_drew hb) | (with_reducible exact below_of_drew (up1 hb)))
  have z5 := hb'.size
  have c5_o16_0 : w5.cell? ⟨w1.heap.size, 0, none⟩ = some (.int .i64 RR.1.1) := keepc hb' c4_o16_0
  clear c4_o16_0 ac4_o16_0
  have c5_o16_1 : w5.cell? ⟨w1.heap.size, 1, none⟩ = some (.slice A11 n12 c13) := keepc hb' c4_o16_1
  clear c4_o16_1 ac4_o16_1
  have c5_o22_0 : w5.cell? ⟨w2.heap.size, 0, none⟩ = some (.int .i64 RR.1.1) := keepc hb' c4_o22_0
  clear c4_o22_0 ac4_o22_0
  have c5_o22_1 : w5.cell? ⟨w2.heap.size, 1, none⟩ = some (.slice A17 n18 c19) := keepc hb' c4_o22_1
  clear c4_o22_1 ac4_o22_1
  have ac5_o16_0 := fun o => keepa o c5_o16_0
  have ac5_o16_1 := fun o => keepa o c5_o16_1
  have ac5_o22_0 := fun o => keepa o c5_o22_0
  have ac5_o22_1 := fun o => keepa o c5_o22_1
  have rFo16 := Fo16.out.below hb'; clear Fo16; have Fo16 := Lib.hid rFo16; clear rFo16
  have rFo22 := Fo22.out.below hb'; clear Fo22; have Fo22 := Lib.hid rFo22; clear rFo22
  have rB := below_chain B.out (by omega) hb'; clear B; have B := Lib.hid rB; clear rB
  clear hb hb'
  go_wp2_with fail
  refine (iReadDfa_c _ _ _ HRR.out _ (by omega) (by exact ((HTB.out.below B.out)))).mono ?_
  rintro e w6 ⟨A23, n24, c25, rfl, q26, l27, hb⟩
  have hb' : Below w5.heap.size w5 w6 := (by first | (with_reducible exact hb) | (with_reducible exact up1 hb) | (with_reducible exact up2 hb) | (with_reducible exact up3 hb) | (with_reducible exact up4 hb) | (with_reducible exact below_of_drew hb) | (with_reducible exact below_of_drew (up1 hb)))
  have z6 := hb'.size
  have c6_o16_0 : w6.cell? ⟨w1.heap.size, 0, none⟩ = some (.int .i64 RR.1.1) := keepc hb' c5_o16_0
  clear c5_o16_0 ac5_o16_0
  have c6_o16_1 : w6.cell? ⟨w1.heap.size, 1, none⟩ = some (.slice A11 n12 c13) := keepc hb' c5_o16_1
  clear c5_o16_1 ac5_o16_1
  have c6_o22_0 : w6.cell? ⟨w2.heap.size, 0, none⟩ = some (.int .i64 RR.1.1) := keepc hb' c5_o22_0
  clear c5_o22_0 ac5_o22_0
  have c6_o22_1 : w6.cell? ⟨w2.heap.size, 1, none⟩ = some (.slice A17 n18 c19) := keepc hb' c5_o22_1
  clear c5_o22_1 ac5_o22_1
  have ac6_o16_0 := fun o => keepa o c6_o16_0
  have ac6_o16_1 := fun o => keepa o c6_o16_1
  have ac6_o22_0 := fun o => keepa o c6_o22_0
  have ac6_o22_1 := fun o => keepa o c6_o22_1
  have rFo16 := Fo16.out.below hb'; clear Fo16; have Fo16 := Lib.hid rFo16; clear rFo16
  have rFo22 := Fo22.out.below hb'; clear Fo22; have Fo22 := Lib.hid rFo22; clear rFo22
  have rB := below_chain B.out (by omega) hb'; clear B; have B := Lib.hid rB; clear rB
  have Fo28 := Lib.hid q26; clear q26
  clear hb hb'
  go_wp2_with fail
  refine (eqDfa_t _ _ _ _ _ _ _ _ _ (by exact ((Fo28.out.rdI).alloc _)) (by exact ((Fo16.out.rdI).alloc _)) (by omega)).mono ?_
  rintro e w7 ⟨rfl, hb⟩
  have hb' : Below w6.heap.size w6 w7 := (by first | (with_reducible exact hb) | (with_reducible exact up1 hb) | (with_reducible exact up2 hb) | (with_reducible exact up3 hb) | (with_reducible exact up4 hb) | (with_reducible exact below_of_drew hb) | (with_reducible exact below_of_drew (up1 hb)))
  have z7 := hb'.size
  have c7_o16_0 : w7.cell? ⟨w1.heap.size, 0, none⟩ = some (.int .i64 RR.1.1) := keepc hb' c6_o16_0
  clear c6_o16_0 ac6_o16_0
  have c7_o16_1 : w7.cell? ⟨w1.heap.size, 1, none⟩ = some (.slice A11 n12 c13) := keepc hb' c6_o16_1
  clear c6_o16_1 ac6_o16_1
  have c7_o22_0 : w7.cell? ⟨w2.heap.size, 0, none⟩ = some (.int .i64 RR.1.1) := keepc hb' c6_o22_0
  clear c6_o22_0 ac6_o22_0
  have c7_o22_1 : w7.cell? ⟨w2.heap.size, 1, none⟩ = some (.slice A17 n18 c19) := keepc hb' c6_o22_1
  clear c6_o22_1 ac6_o22_1
  have c7_o28_0 : w7.cell? ⟨w6.heap.size, 0, none⟩ = some (.int .i64 RR.1.1) := keepc hb (by first | (simp; done) | (rw [World.cell?_alloc_past _ _ _ (by simp <;> omega)]; simp; done) | (rw [World.cell?_alloc_past _ _ _ (by simp <;> omega), World.cell?_alloc_past _ _ _ (by simp <;> omega)]; simp; done) | (rw [World.cell?_alloc_past _ _ _ (by simp <;> omega), World.cell?_alloc_past _ _ _ (by simp <;> omega), World.cell?_alloc_past _ _ _ (by simp <;> omega)]; simp; done) | (rw [World.cell?_alloc_at _ _ _ _ (by simp)]; simp; done) | (rw [World.cell?_alloc_past _ _ _ (by simp <;> omega), World.cell?_alloc_at _ _ _ _ (by simp)]; simp; done) | (rw [World.cell?_alloc_past _ _ _ (by simp <;> omega), World.cell?_alloc_past _ _ _ (by simp <;> omega), World.cell?_alloc_at _ _ _ _ (by simp)]; simp; done) | (rw [World.cell?_alloc_past _ _ _ (by simp <;> omega), World.cell?_alloc_past _ _ _ (by simp <;> omega), World.cell?_alloc_past _ _ _ (by simp <;> omega), World.cell?_alloc_at _ _ _ _ (by simp)]; simp; done))
  have hl_c7_o28_0 : w6.heap.size < w7.heap.size := World.block_lt_of_cell? w7 _ c7_o28_0
  have c7_o28_1 : w7.cell? ⟨w6.heap.size, 1, none⟩ = some (.slice A23 n24 c25) := keepc hb (by first | (simp; done) | (rw [World.cell?_alloc_past _ _ _ (by simp <;> omega)]; simp; done) | (rw [World.cell?_alloc_past _ _ _ (by simp <;> omega), World.cell?_alloc_past _ _ _ (by simp <;> omega)]; simp; done) | (rw [World.cell?_alloc_past _ _ _ (by simp <;> omega), World.cell?_alloc_past _ _ _ (by simp <;> omega), World.cell?_alloc_past _ _ _ (by simp <;> omega)]; simp; done) | (rw [World.cell?_alloc_at _ _ _ _ (by simp)]; simp; done) | (rw [World.cell?_alloc_past _ _ _ (by simp <;> omega), World.cell?_alloc_at _ _ _ _ (by simp)]; simp; done) | (rw [World.cell?_alloc_past _ _ _ (by simp <;> omega), World.cell?_alloc_past _ _ _ (by simp <;> omega), World.cell?_alloc_at _ _ _ _ (by simp)]; simp; done) | (rw [World.cell?_alloc_past _ _ _ (by simp <;> omega), World.cell?_alloc_past _ _ _ (by simp <;> omega), World.cell?_alloc_past _ _ _ (by simp <;> omega), World.cell?_alloc_at _ _ _ _ (by simp)]; simp; done))
  have ac7_o16_0 := fun o => keepa o c7_o16_0
  have ac7_o16_1 := fun o => keepa o c7_o16_1
  have ac7_o22_0 := fun o => keepa o c7_o22_0
  have ac7_o22_1 := fun o => keepa o c7_o22_1
  have ac7_o28_0 := fun o => keepa o c7_o28_0
  have ac7_o28_1 := fun o => keepa o c7_o28_1
  have rFo16 := Fo16.out.below hb'; clear Fo16; have Fo16 := Lib.hid rFo16; clear rFo16
  have rFo22 := Fo22.out.below hb'; clear Fo22; have Fo22 := Lib.hid rFo22; clear rFo22
  have rFo28 := Fo28.out.below hb'; clear Fo28; have Fo28 := Lib.hid rFo28; clear rFo28
  have rB := below_chain B.out (by omega) hb'; clear B; have B := Lib.hid rB; clear rB
  clear hb hb'
  go_wp2_with fail
  refine (heldDfa_c _ _ _ _ _ _ (by exact (Fo22.out.rdI)) (by omega) (by omega) (by omega)).mono ?_
  rintro e w8 ⟨rfl, hb⟩
  have hb' : Below w7.heap.size w7 w8 := (by first | (with_reducible exact hb) | (with_reducible exact up1 hb) | (with_reducible exact up2 hb) | (with_reducible exact up3 hb) | (with_reducible exact up4 hb) | (with_reducible exact below_of_drew hb) | (with_reducible exact below_of_drew (up1 hb)))
  have z8 := hb'.size
  have c8_o16_0 : w8.cell? ⟨w1.heap.size, 0, none⟩ = some (.int .i64 RR.1.1) := keepc hb' c7_o16_0
  clear c7_o16_0 ac7_o16_0
  have c8_o16_1 : w8.cell? ⟨w1.heap.size, 1, none⟩ = some (.slice A11 n12 c13) := keepc hb' c7_o16_1
  clear c7_o16_1 ac7_o16_1
  have c8_o22_0 : w8.cell? ⟨w2.heap.size, 0, none⟩ = some (.int .i64 RR.1.1) := keepc hb' c7_o22_0
  clear c7_o22_0 ac7_o22_0
  have c8_o22_1 : w8.cell? ⟨w2.heap.size, 1, none⟩ = some (.slice A17 n18 c19) := keepc hb' c7_o22_1
  clear c7_o22_1 ac7_o22_1
  have c8_o28_0 : w8.cell? ⟨w6.heap.size, 0, none⟩ = some (.int .i64 RR.1.1) := keepc hb' c7_o28_0
  clear c7_o28_0 ac7_o28_0
  have c8_o28_1 : w8.cell? ⟨w6.heap.size, 1, none⟩ = some (.slice A23 n24 c25) := keepc hb' c7_o28_1
  clear c7_o28_1 ac7_o28_1
  have ac8_o16_0 := fun o => keepa o c8_o16_0
  have ac8_o16_1 := fun o => keepa o c8_o16_1
  have ac8_o22_0 := fun o => keepa o c8_o22_0
  have ac8_o22_1 := fun o => keepa o c8_o22_1
  have ac8_o28_0 := fun o => keepa o c8_o28_0
  have ac8_o28_1 := fun o => keepa o c8_o28_1
  have rFo16 := Fo16.out.below hb'; clear Fo16; have Fo16 := Lib.hid rFo16; clear rFo16
  have rFo22 := Fo22.out.below hb'; clear Fo22; have Fo22 := Lib.hid rFo22; clear rFo22
  have rFo28 := Fo28.out.below hb'; clear Fo28; have Fo28 := Lib.hid rFo28; clear rFo28
  have rB := below_chain B.out (by omega) hb'; clear B; have B := Lib.hid rB; clear rB
  clear hb hb'
  go_wp2
  go_ret
  exact ⟨rfl, B.out⟩
end Go.Proofs.YtdendllginlidaaDoor
