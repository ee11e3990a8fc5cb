/-
  FnExactSegmentPredecessors returns true for every input: its walk, out of the contracts.
-/
import Derived.Test.YtdofcidnomjcdaaLawMachine
import Derived.Test.YtdofcidnomjcdaaLawI
import Derived.Test.YtdofcidnomjcdaaLawII
import Derived.Test.YtdofcidnomjcdaaC26v
import Derived.Test.YtdofcidnomjcdaaOpen
namespace Go.Proofs.Ytdofcidnomjcdaa
open Go.RowKit

set_option maxHeartbeats 4000000 in
set_option maxRecDepth 100000 in
theorem walkSegmentPredecessors (sy0 : Int) (st0 : Int) (A0 : Option Addr) (n0 : Nat) (c0 : Nat) (xs0 : List (Int × Int × Int)) (A1 : Option Addr) (n1 : Nat) (c1 : Nat) (xs1 : List Int) (w : World) (h0 : RdS w [sgX enc3 3 A0 n0 xs0]) (hb0_0 : n0 ≤ 9223372036854775807) (_o0 : i64ok sy0) (_p0 : i64ok st0) (_oo0 : ∀ x ∈ xs0, i64ok x.1 ∧ i64ok x.2.1 ∧ i64ok x.2.2) (h1 : RdI w A1 n1 xs1) (hb1 : n1 ≤ 9223372036854775807) (_oo1 : ∀ x ∈ xs1, i64ok x) :
    Calls Try.prog 3 #[.agg #[.int .i64 sy0, .int .i64 st0, .slice A0 n0 c0], .slice A1 n1 c1] w fun e w' => e = .returned (.bool true) ∧ Below w.heap.size w w' := by
  have P0 := Lib.hid (RdSU.mk' h0); clear h0
  have P1 := Lib.hid (RdU.mk' h1); clear h1
  by_cases hsa1 : 1048576 < n1
  · go_enter Try.func3, Try.ntmps3
    go_wp2
    go_ret
    exact ⟨rfl, below_size.alloc (Nat.le_refl _) _⟩
  go_enter Try.func3, Try.ntmps3
  go_wp2_with fail
  refine (szMachine_c _ _ _ _ _ xs0 _ _ hb0_0 (by omega) (by omega)).mono ?_
  rintro e w1 ⟨rfl, hb⟩
  have hb' : Below w.heap.size w w1 := (by first | (with_reducible exact hb) | (with_reducible exact up1 hb) | (with_reducible exact up2 hb) | (with_reducible exact up3 hb) | (with_reducible exact up4 hb) | (with_reducible exact below_of_drew hb) | (with_reducible exact below_of_drew (up1 hb)))
  have z1 := hb'.size
  have c1_a0_0 : w1.cell? ⟨w.heap.size, 0, none⟩ = some (.int .i64 sy0) := keepc hb (by first | (simp; done) | (rw [World.cell?_alloc_past _ _ _ (by simp <;> omega)]; simp; done) | (rw [World.cell?_alloc_past _ _ _ (by simp <;> omega), World.cell?_alloc_past _ _ _ (by simp <;> omega)]; simp; done) | (rw [World.cell?_alloc_past _ _ _ (by simp <;> omega), World.cell?_alloc_past _ _ _ (by simp <;> omega), World.cell?_alloc_past _ _ _ (by simp <;> omega)]; simp; done) | (rw [World.cell?_alloc_at _ _ _ _ (by simp)]; simp; done) | (rw [World.cell?_alloc_past _ _ _ (by simp <;> omega), World.cell?_alloc_at _ _ _ _ (by simp)]; simp; done) | (rw [World.cell?_alloc_past _ _ _ (by simp <;> omega), World.cell?_alloc_past _ _ _ (by simp <;> omega), World.cell?_alloc_at _ _ _ _ (by simp)]; simp; done) | (rw [World.cell?_alloc_past _ _ _ (by simp <;> omega), World.cell?_alloc_past _ _ _ (by simp <;> omega), World.cell?_alloc_past _ _ _ (by simp <;> omega), World.cell?_alloc_at _ _ _ _ (by simp)]; simp; done))
  have hl_c1_a0_0 : w.heap.size < w1.heap.size := World.block_lt_of_cell? w1 _ c1_a0_0
  have c1_a0_1 : w1.cell? ⟨w.heap.size, 1, none⟩ = some (.int .i64 st0) := keepc hb (by first | (simp; done) | (rw [World.cell?_alloc_past _ _ _ (by simp <;> omega)]; simp; done) | (rw [World.cell?_alloc_past _ _ _ (by simp <;> omega), World.cell?_alloc_past _ _ _ (by simp <;> omega)]; simp; done) | (rw [World.cell?_alloc_past _ _ _ (by simp <;> omega), World.cell?_alloc_past _ _ _ (by simp <;> omega), World.cell?_alloc_past _ _ _ (by simp <;> omega)]; simp; done) | (rw [World.cell?_alloc_at _ _ _ _ (by simp)]; simp; done) | (rw [World.cell?_alloc_past _ _ _ (by simp <;> omega), World.cell?_alloc_at _ _ _ _ (by simp)]; simp; done) | (rw [World.cell?_alloc_past _ _ _ (by simp <;> omega), World.cell?_alloc_past _ _ _ (by simp <;> omega), World.cell?_alloc_at _ _ _ _ (by simp)]; simp; done) | (rw [World.cell?_alloc_past _ _ _ (by simp <;> omega), World.cell?_alloc_past _ _ _ (by simp <;> omega), World.cell?_alloc_past _ _ _ (by simp <;> omega), World.cell?_alloc_at _ _ _ _ (by simp)]; simp; done))
  have c1_a0_2 : w1.cell? ⟨w.heap.size, 2, none⟩ = some (.slice A0 n0 c0) := keepc hb (by first | (simp; done) | (rw [World.cell?_alloc_past _ _ _ (by simp <;> omega)]; simp; done) | (rw [World.cell?_alloc_past _ _ _ (by simp <;> omega), World.cell?_alloc_past _ _ _ (by simp <;> omega)]; simp; done) | (rw [World.cell?_alloc_past _ _ _ (by simp <;> omega), World.cell?_alloc_past _ _ _ (by simp <;> omega), World.cell?_alloc_past _ _ _ (by simp <;> omega)]; simp; done) | (rw [World.cell?_alloc_at _ _ _ _ (by simp)]; simp; done) | (rw [World.cell?_alloc_past _ _ _ (by simp <;> omega), World.cell?_alloc_at _ _ _ _ (by simp)]; simp; done) | (rw [World.cell?_alloc_past _ _ _ (by simp <;> omega), World.cell?_alloc_past _ _ _ (by simp <;> omega), World.cell?_alloc_at _ _ _ _ (by simp)]; simp; done) | (rw [World.cell?_alloc_past _ _ _ (by simp <;> omega), World.cell?_alloc_past _ _ _ (by simp <;> omega), World.cell?_alloc_past _ _ _ (by simp <;> omega), World.cell?_alloc_at _ _ _ _ (by simp)]; simp; done))
  have ac1_a0_0 := fun o => keepa o c1_a0_0
  have ac1_a0_1 := fun o => keepa o c1_a0_1
  have ac1_a0_2 := fun o => keepa o c1_a0_2
  have rP0 := P0.out.below hb'; clear P0; have P0 := Lib.hid rP0; clear rP0
  have rP1 := P1.out.below hb'; clear P1; have P1 := Lib.hid rP1; clear rP1
  have rB := hb'; have B := Lib.hid rB; clear rB
  clear hb hb'
  by_cases hs1 : 1048576 < n0
  · rw [szOf_neg' (by omega)]
    go_wp2
    go_ret
    exact ⟨rfl, B.out⟩
  rw [szOf_pos' (by omega)]
  have hs1' : (0 : Int) ≤ 1048576 - (n0 : Nat) := by omega
  go_wp2_with fail
  refine (toMachine_c _ _ _ _ _ _ _ (by exact (P0.out.rd)) (by omega)).mono ?_
  rintro e w2 ⟨g011, rfl, q2, hb⟩
  have hb' : Below w1.heap.size w1 w2 := (by first | (with_reducible exact hb) | (with_reducible exact up1 hb) | (with_reducible exact up2 hb) | (with_reducible exact up3 hb) | (with_reducible exact up4 hb) | (with_reducible exact below_of_drew hb) | (with_reducible exact below_of_drew (up1 hb)))
  have z2 := hb'.size
  have c2_a0_0 : w2.cell? ⟨w.heap.size, 0, none⟩ = some (.int .i64 sy0) := keepc hb' c1_a0_0
  clear c1_a0_0 ac1_a0_0
  have c2_a0_1 : w2.cell? ⟨w.heap.size, 1, none⟩ = some (.int .i64 st0) := keepc hb' c1_a0_1
  clear c1_a0_1 ac1_a0_1
  have c2_a0_2 : w2.cell? ⟨w.heap.size, 2, none⟩ = some (.slice A0 n0 c0) := keepc hb' c1_a0_2
  clear c1_a0_2 ac1_a0_2
  have ac2_a0_0 := fun o => keepa o c2_a0_0
  have ac2_a0_1 := fun o => keepa o c2_a0_1
  have ac2_a0_2 := fun o => keepa o c2_a0_2
  have rP0 := P0.out.below hb'; clear P0; have P0 := Lib.hid rP0; clear rP0
  have rP1 := P1.out.below hb'; clear P1; have P1 := Lib.hid rP1; clear rP1
  have rB := below_chain B.out (by omega) hb'; clear B; have B := Lib.hid rB; clear rB
  have Fo12 := Lib.hid q2; clear q2
  clear hb hb'
  go_wp2_with fail
  refine (toInt64S_c _ _ _ _ _ (by exact (P1.out.1)) (by omega)).mono ?_
  rintro e w3 ⟨rfl, q3, hb⟩
  have hb' : Below w2.heap.size w2 w3 := (by first | (with_reducible exact hb) | (with_reducible exact up1 hb) | (with_reducible exact up2 hb) | (with_reducible exact up3 hb) | (with_reducible exact up4 hb) | (with_reducible exact below_of_drew hb) | (with_reducible exact below_of_drew (up1 hb)))
  have z3 := hb'.size
  have c3_a0_0 : w3.cell? ⟨w.heap.size, 0, none⟩ = some (.int .i64 sy0) := keepc hb' c2_a0_0
  clear c2_a0_0 ac2_a0_0
  have c3_a0_1 : w3.cell? ⟨w.heap.size, 1, none⟩ = some (.int .i64 st0) := keepc hb' c2_a0_1
  clear c2_a0_1 ac2_a0_1
  have c3_a0_2 : w3.cell? ⟨w.heap.size, 2, none⟩ = some (.slice A0 n0 c0) := keepc hb' c2_a0_2
  clear c2_a0_2 ac2_a0_2
  have ac3_a0_0 := fun o => keepa o c3_a0_0
  have ac3_a0_1 := fun o => keepa o c3_a0_1
  have ac3_a0_2 := fun o => keepa o c3_a0_2
  have rP0 := P0.out.below hb'; clear P0; have P0 := Lib.hid rP0; clear rP0
  have rP1 := P1.out.below hb'; clear P1; have P1 := Lib.hid rP1; clear rP1
  have rFo12 := Fo12.out.below hb'; clear Fo12; have Fo12 := Lib.hid rFo12; clear rFo12
  have rB := below_chain B.out (by omega) hb'; clear B; have B := Lib.hid rB; clear rB
  have Fo13 := Lib.hid q3; clear q3
  clear hb hb'
  go_wp2_with fail
  refine (sSegmentPredecessors_c _ _ _ _ _ _ _ _ _ _ _ (by exact (Fo12.out.rd)) (by exact (Fo13.out.rdI)) (by omega) (by omega)).mono ?_
  rintro e w4 ⟨A14, n15, c16, its17, rfl, q18, l19, hb⟩
  have hb' : Below w3.heap.size w3 w4 := (by first | (with_reducible exact hb) | (with_reducible exact up1 hb) | (with_reducible exact up2 hb) | (with_reducible exact up3 hb) | (with_reducible exact up4 hb) | (with_reducible exact below_of_drew hb) | (with_reducible exact below_of_drew (up1 hb)))
  have z4 := hb'.size
  have c4_a0_0 : w4.cell? ⟨w.heap.size, 0, none⟩ = some (.int .i64 sy0) := keepc hb' c3_a0_0
  clear c3_a0_0 ac3_a0_0
  have c4_a0_1 : w4.cell? ⟨w.heap.size, 1, none⟩ = some (.int .i64 st0) := keepc hb' c3_a0_1
  clear c3_a0_1 ac3_a0_1
  have c4_a0_2 : w4.cell? ⟨w.heap.size, 2, none⟩ = some (.slice A0 n0 c0) := keepc hb' c3_a0_2
  clear c3_a0_2 ac3_a0_2
  have ac4_a0_0 := fun o => keepa o c4_a0_0
  have ac4_a0_1 := fun o => keepa o c4_a0_1
  have ac4_a0_2 := fun o => keepa o c4_a0_2
  have rP0 := P0.out.below hb'; clear P0; have P0 := Lib.hid rP0; clear rP0
  have rP1 := P1.out.below hb'; clear P1; have P1 := Lib.hid rP1; clear rP1
  have rFo12 := Fo12.out.below hb'; clear Fo12; have Fo12 := Lib.hid rFo12; clear rFo12
  have rFo13 := Fo13.out.below hb'; clear Fo13; have Fo13 := Lib.hid rFo13; clear rFo13
  have rB := below_chain B.out (by omega) hb'; clear B; have B := Lib.hid rB; clear rB
  have Fo20 := Lib.hid q18; clear q18
  obtain ⟨ln_o20, bI0_o20, hs0_o20, bm0_o20⟩ := l19
  have hI0_o20 := (fun t ht => Nat.le_trans (bI0_o20 t ht) (by omega) : ∀ t ∈ its17, t.n ≤ 1000000000); have hm0_o20 := Lib.hid bm0_o20; clear bI0_o20 bm0_o20
  clear hb hb'
  go_wp2_with fail
  refine (toMachine_c _ _ _ _ _ _ _ (by exact (P0.out.rd)) (by omega)).mono ?_
  rintro e w5 ⟨g021, rfl, q5, hb⟩
  have hb' : Below w4.heap.size w4 w5 := (by first | (with_reducible exact hb) | (with_reducible exact up1 hb) | (with_reducible exact up2 hb) | (with_reducible exact up3 hb) | (with_reducible exact up4 hb) | (with_reducible exact below_of_drew hb) | (with_reducible exact below_of_drew (up1 hb)))
  have z5 := hb'.size
  have c5_a0_0 : w5.cell? ⟨w.heap.size, 0, none⟩ = some (.int .i64 sy0) := keepc hb' c4_a0_0
  clear c4_a0_0 ac4_a0_0
  have c5_a0_1 : w5.cell? ⟨w.heap.size, 1, none⟩ = some (.int .i64 st0) := keepc hb' c4_a0_1
  clear c4_a0_1 ac4_a0_1
  have c5_a0_2 : w5.cell? ⟨w.heap.size, 2, none⟩ = some (.slice A0 n0 c0) := keepc hb' c4_a0_2
  clear c4_a0_2 ac4_a0_2
  have ac5_a0_0 := fun o => keepa o c5_a0_0
  have ac5_a0_1 := fun o => keepa o c5_a0_1
  have ac5_a0_2 := fun o => keepa o c5_a0_2
  have rP0 := P0.out.below hb'; clear P0; have P0 := Lib.hid rP0; clear rP0
  have rP1 := P1.out.below hb'; clear P1; have P1 := Lib.hid rP1; clear rP1
  have rFo12 := Fo12.out.below hb'; clear Fo12; have Fo12 := Lib.hid rFo12; clear rFo12
  have rFo13 := Fo13.out.below hb'; clear Fo13; have Fo13 := Lib.hid rFo13; clear rFo13
  have rFo20 := Fo20.out.below hb'; clear Fo20; have Fo20 := Lib.hid rFo20; clear rFo20
  have rB := below_chain B.out (by omega) hb'; clear B; have B := Lib.hid rB; clear rB
  have Fo22 := Lib.hid q5; clear q5
  clear hb hb'
  go_wp2_with fail
  refine (toInt64S_c _ _ _ _ _ (by exact ((P1.out.1).alloc _)) (by omega)).mono ?_
  rintro e w6 ⟨rfl, q6, hb⟩
  try simp only [World.size_alloc] at q6
  have hb' : Below w5.heap.size w5 w6 := (by first | (with_reducible exact hb) | (with_reducible exact up1 hb) | (with_reducible exact up2 hb) | (with_reducible exact up3 hb) | (with_reducible exact up4 hb) | (with_reducible exact below_of_drew hb) | (with_reducible exact below_of_drew (up1 hb)))
  have z6 := hb'.size
  have c6_a0_0 : w6.cell? ⟨w.heap.size, 0, none⟩ = some (.int .i64 sy0) := keepc hb' c5_a0_0
  clear c5_a0_0 ac5_a0_0
  have c6_a0_1 : w6.cell? ⟨w.heap.size, 1, none⟩ = some (.int .i64 st0) := keepc hb' c5_a0_1
  clear c5_a0_1 ac5_a0_1
  have c6_a0_2 : w6.cell? ⟨w.heap.size, 2, none⟩ = some (.slice A0 n0 c0) := keepc hb' c5_a0_2
  clear c5_a0_2 ac5_a0_2
  have c6_o22_0 : w6.cell? ⟨w5.heap.size, 0, none⟩ = some (.int .i64 sy0) := keepc hb (by first | (simp; done) | (rw [World.cell?_alloc_past _ _ _ (by simp <;> omega)]; simp; done) | (rw [World.cell?_alloc_past _ _ _ (by simp <;> omega), World.cell?_alloc_past _ _ _ (by simp <;> omega)]; simp; done) | (rw [World.cell?_alloc_past _ _ _ (by simp <;> omega), World.cell?_alloc_past _ _ _ (by simp <;> omega), World.cell?_alloc_past _ _ _ (by simp <;> omega)]; simp; done) | (rw [World.cell?_alloc_at _ _ _ _ (by simp)]; simp; done) | (rw [World.cell?_alloc_past _ _ _ (by simp <;> omega), World.cell?_alloc_at _ _ _ _ (by simp)]; simp; done) | (rw [World.cell?_alloc_past _ _ _ (by simp <;> omega), World.cell?_alloc_past _ _ _ (by simp <;> omega), World.cell?_alloc_at _ _ _ _ (by simp)]; simp; done) | (rw [World.cell?_alloc_past _ _ _ (by simp <;> omega), World.cell?_alloc_past _ _ _ (by simp <;> omega), World.cell?_alloc_past _ _ _ (by simp <;> omega), World.cell?_alloc_at _ _ _ _ (by simp)]; simp; done))
  have hl_c6_o22_0 : w5.heap.size < w6.heap.size := World.block_lt_of_cell? w6 _ c6_o22_0
  have c6_o22_1 : w6.cell? ⟨w5.heap.size, 1, none⟩ = some (.int .i64 st0) := keepc hb (by first | (simp; done) | (rw [World.cell?_alloc_past _ _ _ (by simp <;> omega)]; simp; done) | (rw [World.cell?_alloc_past _ _ _ (by simp <;> omega), World.cell?_alloc_past _ _ _ (by simp <;> omega)]; simp; done) | (rw [World.cell?_alloc_past _ _ _ (by simp <;> omega), World.cell?_alloc_past _ _ _ (by simp <;> omega), World.cell?_alloc_past _ _ _ (by simp <;> omega)]; simp; done) | (rw [World.cell?_alloc_at _ _ _ _ (by simp)]; simp; done) | (rw [World.cell?_alloc_past _ _ _ (by simp <;> omega), World.cell?_alloc_at _ _ _ _ (by simp)]; simp; done) | (rw [World.cell?_alloc_past _ _ _ (by simp <;> omega), World.cell?_alloc_past _ _ _ (by simp <;> omega), World.cell?_alloc_at _ _ _ _ (by simp)]; simp; done) | (rw [World.cell?_alloc_past _ _ _ (by simp <;> omega), World.cell?_alloc_past _ _ _ (by simp <;> omega), World.cell?_alloc_past _ _ _ (by simp <;> omega), World.cell?_alloc_at _ _ _ _ (by simp)]; simp; done))
  have c6_o22_2 : w6.cell? ⟨w5.heap.size, 2, none⟩ = some (.slice (some ⟨g021, 0, none⟩) n0 n0) := keepc hb (by first | (simp; done) | (rw [World.cell?_alloc_past _ _ _ (by simp <;> omega)]; simp; done) | (rw [World.cell?_alloc_past _ _ _ (by simp <;> omega), World.cell?_alloc_past _ _ _ (by simp <;> omega)]; simp; done) | (rw [World.cell?_alloc_past _ _ _ (by simp <;> omega), World.cell?_alloc_past _ _ _ (by simp <;> omega), World.cell?_alloc_past _ _ _ (by simp <;> omega)]; simp; done) | (rw [World.cell?_alloc_at _ _ _ _ (by simp)]; simp; done) | (rw [World.cell?_alloc_past _ _ _ (by simp <;> omega), World.cell?_alloc_at _ _ _ _ (by simp)]; simp; done) | (rw [World.cell?_alloc_past _ _ _ (by simp <;> omega), World.cell?_alloc_past _ _ _ (by simp <;> omega), World.cell?_alloc_at _ _ _ _ (by simp)]; simp; done) | (rw [World.cell?_alloc_past _ _ _ (by simp <;> omega), World.cell?_alloc_past _ _ _ (by simp <;> omega), World.cell?_alloc_past _ _ _ (by simp <;> omega), World.cell?_alloc_at _ _ _ _ (by simp)]; simp; done))
  have ac6_a0_0 := fun o => keepa o c6_a0_0
  have ac6_a0_1 := fun o => keepa o c6_a0_1
  have ac6_a0_2 := fun o => keepa o c6_a0_2
  have ac6_o22_0 := fun o => keepa o c6_o22_0
  have ac6_o22_1 := fun o => keepa o c6_o22_1
  have ac6_o22_2 := fun o => keepa o c6_o22_2
  have rP0 := P0.out.below hb'; clear P0; have P0 := Lib.hid rP0; clear rP0
  have rP1 := P1.out.below hb'; clear P1; have P1 := Lib.hid rP1; clear rP1
  have rFo12 := Fo12.out.below hb'; clear Fo12; have Fo12 := Lib.hid rFo12; clear rFo12
  have rFo13 := Fo13.out.below hb'; clear Fo13; have Fo13 := Lib.hid rFo13; clear rFo13
  have rFo20 := Fo20.out.below hb'; clear Fo20; have Fo20 := Lib.hid rFo20; clear rFo20
  have rFo22 := Fo22.out.below hb'; clear Fo22; have Fo22 := Lib.hid rFo22; clear rFo22
  have rB := below_chain B.out (by omega) hb'; clear B; have B := Lib.hid rB; clear rB
  have Fo23 := Lib.hid q6; clear q6
  clear hb hb'
  go_wp2_with fail
  refine (iSegmentPredecessors_c _ _ _ _ _ _ _ _ _ _ _ (by exact (Fo22.out.rd)) (by exact (Fo23.out.rdI)) (by omega) (by omega) (Nat.le_refl _)).mono ?_
  rintro e w7 ⟨A24, n25, c26, its27, rfl, q28, l29, hb⟩
  have hb' : Below w6.heap.size w6 w7 := (by first | (with_reducible exact hb) | (with_reducible exact up1 hb) | (with_reducible exact up2 hb) | (with_reducible exact up3 hb) | (with_reducible exact up4 hb) | (with_reducible exact below_of_drew hb) | (with_reducible exact below_of_drew (up1 hb)))
  have z7 := hb'.size
  have c7_a0_0 : w7.cell? ⟨w.heap.size, 0, none⟩ = some (.int .i64 sy0) := keepc hb' c6_a0_0
  clear c6_a0_0 ac6_a0_0
  have c7_a0_1 : w7.cell? ⟨w.heap.size, 1, none⟩ = some (.int .i64 st0) := keepc hb' c6_a0_1
  clear c6_a0_1 ac6_a0_1
  have c7_a0_2 : w7.cell? ⟨w.heap.size, 2, none⟩ = some (.slice A0 n0 c0) := keepc hb' c6_a0_2
  clear c6_a0_2 ac6_a0_2
  have c7_o22_0 : w7.cell? ⟨w5.heap.size, 0, none⟩ = some (.int .i64 sy0) := keepc hb' c6_o22_0
  clear c6_o22_0 ac6_o22_0
  have c7_o22_1 : w7.cell? ⟨w5.heap.size, 1, none⟩ = some (.int .i64 st0) := keepc hb' c6_o22_1
  clear c6_o22_1 ac6_o22_1
  have c7_o22_2 : w7.cell? ⟨w5.heap.size, 2, none⟩ = some (.slice (some ⟨g021, 0, none⟩) n0 n0) := keepc hb' c6_o22_2
  clear c6_o22_2 ac6_o22_2
  have ac7_a0_0 := fun o => keepa o c7_a0_0
  have ac7_a0_1 := fun o => keepa o c7_a0_1
  have ac7_a0_2 := fun o => keepa o c7_a0_2
  have ac7_o22_0 := fun o => keepa o c7_o22_0
  have ac7_o22_1 := fun o => keepa o c7_o22_1
  have ac7_o22_2 := fun o => keepa o c7_o22_2
  have rP0 := P0.out.below hb'; clear P0; have P0 := Lib.hid rP0; clear rP0
  have rP1 := P1.out.below hb'; clear P1; have P1 := Lib.hid rP1; clear rP1
  have rFo12 := Fo12.out.below hb'; clear Fo12; have Fo12 := Lib.hid rFo12; clear rFo12
  have rFo13 := Fo13.out.below hb'; clear Fo13; have Fo13 := Lib.hid rFo13; clear rFo13
  have rFo20 := Fo20.out.below hb'; clear Fo20; have Fo20 := Lib.hid rFo20; clear rFo20
  have rFo22 := Fo22.out.below hb'; clear Fo22; have Fo22 := Lib.hid rFo22; clear rFo22
  have rFo23 := Fo23.out.below hb'; clear Fo23; have Fo23 := Lib.hid rFo23; clear rFo23
  have rB := below_chain B.out (by omega) hb'; clear B; have B := Lib.hid rB; clear rB
  have Fo30 := Lib.hid q28; clear q28
  obtain ⟨ln_o30, bI0_o30, hs0_o30, bm0_o30⟩ := l29
  have hI0_o30 := (fun t ht => Nat.le_trans (bI0_o30 t ht) (by omega) : ∀ t ∈ its27, t.n ≤ 1000000000); have hm0_o30 := Lib.hid bm0_o30; clear bI0_o30 bm0_o30
  clear hb hb'
  go_wp2_with fail
  refine (eqInt64SS_t _ _ _ _ _ _ _ _ _ (by exact (Fo30.out.rd)) (by exact (Fo20.out.rd)) (by omega) hI0_o30 (hm0_o30.out.trans hm0_o20.out.symm)).mono ?_
  rintro e w8 ⟨rfl, hb⟩
  have hb' : Below w7.heap.size w7 w8 := (by first | (with_reducible exact hb) | (with_reducible exact up1 hb) | (with_reducible exact up2 hb) | (with_reducible exact up3 hb) | (with_reducible exact up4 hb) | (with_reducible exact below_of_drew hb) | (with_reducible exact below_of_drew (up1 hb)))
  have z8 := hb'.size
  have c8_a0_0 : w8.cell? ⟨w.heap.size, 0, none⟩ = some (.int .i64 sy0) := keepc hb' c7_a0_0
  clear c7_a0_0 ac7_a0_0
  have c8_a0_1 : w8.cell? ⟨w.heap.size, 1, none⟩ = some (.int .i64 st0) := keepc hb' c7_a0_1
  clear c7_a0_1 ac7_a0_1
  have c8_a0_2 : w8.cell? ⟨w.heap.size, 2, none⟩ = some (.slice A0 n0 c0) := keepc hb' c7_a0_2
  clear c7_a0_2 ac7_a0_2
  have c8_o22_0 : w8.cell? ⟨w5.heap.size, 0, none⟩ = some (.int .i64 sy0) := keepc hb' c7_o22_0
  clear c7_o22_0 ac7_o22_0
  have c8_o22_1 : w8.cell? ⟨w5.heap.size, 1, none⟩ = some (.int .i64 st0) := keepc hb' c7_o22_1
  clear c7_o22_1 ac7_o22_1
  have c8_o22_2 : w8.cell? ⟨w5.heap.size, 2, none⟩ = some (.slice (some ⟨g021, 0, none⟩) n0 n0) := keepc hb' c7_o22_2
  clear c7_o22_2 ac7_o22_2
  have ac8_a0_0 := fun o => keepa o c8_a0_0
  have ac8_a0_1 := fun o => keepa o c8_a0_1
  have ac8_a0_2 := fun o => keepa o c8_a0_2
  have ac8_o22_0 := fun o => keepa o c8_o22_0
  have ac8_o22_1 := fun o => keepa o c8_o22_1
  have ac8_o22_2 := fun o => keepa o c8_o22_2
  have rP0 := P0.out.below hb'; clear P0; have P0 := Lib.hid rP0; clear rP0
  have rP1 := P1.out.below hb'; clear P1; have P1 := Lib.hid rP1; clear rP1
  have rFo12 := Fo12.out.below hb'; clear Fo12; have Fo12 := Lib.hid rFo12; clear rFo12
  have rFo13 := Fo13.out.below hb'; clear Fo13; have Fo13 := Lib.hid rFo13; clear rFo13
  have rFo20 := Fo20.out.below hb'; clear Fo20; have Fo20 := Lib.hid rFo20; clear rFo20
  have rFo22 := Fo22.out.below hb'; clear Fo22; have Fo22 := Lib.hid rFo22; clear rFo22
  have rFo23 := Fo23.out.below hb'; clear Fo23; have Fo23 := Lib.hid rFo23; clear rFo23
  have rFo30 := Fo30.out.below hb'; clear Fo30; have Fo30 := Lib.hid rFo30; clear rFo30
  have rB := below_chain B.out (by omega) hb'; clear B; have B := Lib.hid rB; clear rB
  clear hb hb'
  go_wp2_with fail
  have fx_c8_a0_0 := Ext.cell c8_a0_0
  have fx_c8_a0_1 := Ext.cell c8_a0_1
  have fx_c8_a0_2 := Ext.cell c8_a0_2
  have fx_c8_o22_0 := Ext.cell c8_o22_0
  have fx_c8_o22_1 := Ext.cell c8_o22_1
  have fx_c8_o22_2 := Ext.cell c8_o22_2
  refine Mix.wp_region_mix [3, 3, 1, 1, 0] (fun w' => ∃ x : Ext w8, w' = x.w) (by kernel_rfl) (by kernel_rfl) (InExt.drew _) ?_
  repeat (first | (refine Mix.wpMix_read (by rfl) ?_; go_big_quiet_step (fail); refine wpQuiet_nil ?_) | (refine Mix.wpMix_pure (by rfl) ?_; go_big_quiet_step (fail); refine wpQuiet_nil ?_))
  refine Mix.wpMix_chg (by rfl) (fun K hK => ?_)
  go_wp2_with fail
  refine (toMachine_c _ _ _ _ _ _ _ (by exact (P0.out.rd)) (by omega)).mono ?_
  rintro e w9 ⟨g031, rfl, q9, hb⟩
  have hb' : Below w8.heap.size w8 w9 := (by first | (with_reducible exact hb) | (with_reducible exact up1 hb) | (with_reducible exact up2 hb) | (with_reducible exact up3 hb) | (with_reducible exact up4 hb) | (with_reducible exact below_of_drew hb) | (with_reducible exact below_of_drew (up1 hb)))
  have z9 := hb'.size
  have c9_a0_0 : w9.cell? ⟨w.heap.size, 0, none⟩ = some (.int .i64 sy0) := keepc hb' c8_a0_0
  clear c8_a0_0 ac8_a0_0
  have c9_a0_1 : w9.cell? ⟨w.heap.size, 1, none⟩ = some (.int .i64 st0) := keepc hb' c8_a0_1
  clear c8_a0_1 ac8_a0_1
  have c9_a0_2 : w9.cell? ⟨w.heap.size, 2, none⟩ = some (.slice A0 n0 c0) := keepc hb' c8_a0_2
  clear c8_a0_2 ac8_a0_2
  have c9_o22_0 : w9.cell? ⟨w5.heap.size, 0, none⟩ = some (.int .i64 sy0) := keepc hb' c8_o22_0
  clear c8_o22_0 ac8_o22_0
  have c9_o22_1 : w9.cell? ⟨w5.heap.size, 1, none⟩ = some (.int .i64 st0) := keepc hb' c8_o22_1
  clear c8_o22_1 ac8_o22_1
  have c9_o22_2 : w9.cell? ⟨w5.heap.size, 2, none⟩ = some (.slice (some ⟨g021, 0, none⟩) n0 n0) := keepc hb' c8_o22_2
  clear c8_o22_2 ac8_o22_2
  have ac9_a0_0 := fun o => keepa o c9_a0_0
  have ac9_a0_1 := fun o => keepa o c9_a0_1
  have ac9_a0_2 := fun o => keepa o c9_a0_2
  have ac9_o22_0 := fun o => keepa o c9_o22_0
  have ac9_o22_1 := fun o => keepa o c9_o22_1
  have ac9_o22_2 := fun o => keepa o c9_o22_2
  have rP0 := P0.out.below hb'; clear P0; have P0 := Lib.hid rP0; clear rP0
  have rP1 := P1.out.below hb'; clear P1; have P1 := Lib.hid rP1; clear rP1
  have rFo12 := Fo12.out.below hb'; clear Fo12; have Fo12 := Lib.hid rFo12; clear rFo12
  have rFo13 := Fo13.out.below hb'; clear Fo13; have Fo13 := Lib.hid rFo13; clear rFo13
  have rFo20 := Fo20.out.below hb'; clear Fo20; have Fo20 := Lib.hid rFo20; clear rFo20
  have rFo22 := Fo22.out.below hb'; clear Fo22; have Fo22 := Lib.hid rFo22; clear rFo22
  have rFo23 := Fo23.out.below hb'; clear Fo23; have Fo23 := Lib.hid rFo23; clear rFo23
  have rFo30 := Fo30.out.below hb'; clear Fo30; have Fo30 := Lib.hid rFo30; clear rFo30
  have rB := below_chain B.out (by omega) hb'; clear B; have B := Lib.hid rB; clear rB
  have Fo32 := Lib.hid q9; clear q9
  have em9 : Below w8.heap.size w8 w9 := hb'
  clear hb hb'
  go_wp2_with fail
  refine hK _ _ ⟨⟨_, em9⟩, rfl⟩ ?_
  clear hK K
  refine Mix.wpMix_chg (by rfl) (fun K hK => ?_)
  go_wp2_with fail
  refine (eqMachine_t _ _ _ _ _ _ _ _ _ _ (by exact (Fo22.out.rd)) (by exact (Fo32.out.rd)) (by omega)).mono ?_
  rintro e w10 ⟨rfl, hb⟩
  have hb' : Below w9.heap.size w9 w10 := (by first | (with_reducible exact hb) | (with_reducible exact up1 hb) | (with_reducible exact up2 hb) | (with_reducible exact up3 hb) | (with_reducible exact up4 hb) | (with_reducible exact below_of_drew hb) | (with_reducible exact below_of_drew (up1 hb)))
  have z10 := hb'.size
  have c10_a0_0 : w10.cell? ⟨w.heap.size, 0, none⟩ = some (.int .i64 sy0) := keepc hb' c9_a0_0
  clear c9_a0_0 ac9_a0_0
  have c10_a0_1 : w10.cell? ⟨w.heap.size, 1, none⟩ = some (.int .i64 st0) := keepc hb' c9_a0_1
  clear c9_a0_1 ac9_a0_1
  have c10_a0_2 : w10.cell? ⟨w.heap.size, 2, none⟩ = some (.slice A0 n0 c0) := keepc hb' c9_a0_2
  clear c9_a0_2 ac9_a0_2
  have c10_o22_0 : w10.cell? ⟨w5.heap.size, 0, none⟩ = some (.int .i64 sy0) := keepc hb' c9_o22_0
  clear c9_o22_0 ac9_o22_0
  have c10_o22_1 : w10.cell? ⟨w5.heap.size, 1, none⟩ = some (.int .i64 st0) := keepc hb' c9_o22_1
  clear c9_o22_1 ac9_o22_1
  have c10_o22_2 : w10.cell? ⟨w5.heap.size, 2, none⟩ = some (.slice (some ⟨g021, 0, none⟩) n0 n0) := keepc hb' c9_o22_2
  clear c9_o22_2 ac9_o22_2
  have ac10_a0_0 := fun o => keepa o c10_a0_0
  have ac10_a0_1 := fun o => keepa o c10_a0_1
  have ac10_a0_2 := fun o => keepa o c10_a0_2
  have ac10_o22_0 := fun o => keepa o c10_o22_0
  have ac10_o22_1 := fun o => keepa o c10_o22_1
  have ac10_o22_2 := fun o => keepa o c10_o22_2
  have rP0 := P0.out.below hb'; clear P0; have P0 := Lib.hid rP0; clear rP0
  have rP1 := P1.out.below hb'; clear P1; have P1 := Lib.hid rP1; clear rP1
  have rFo12 := Fo12.out.below hb'; clear Fo12; have Fo12 := Lib.hid rFo12; clear rFo12
  have rFo13 := Fo13.out.below hb'; clear Fo13; have Fo13 := Lib.hid rFo13; clear rFo13
  have rFo20 := Fo20.out.below hb'; clear Fo20; have Fo20 := Lib.hid rFo20; clear rFo20
  have rFo22 := Fo22.out.below hb'; clear Fo22; have Fo22 := Lib.hid rFo22; clear rFo22
  have rFo23 := Fo23.out.below hb'; clear Fo23; have Fo23 := Lib.hid rFo23; clear rFo23
  have rFo30 := Fo30.out.below hb'; clear Fo30; have Fo30 := Lib.hid rFo30; clear rFo30
  have rFo32 := Fo32.out.below hb'; clear Fo32; have Fo32 := Lib.hid rFo32; clear rFo32
  have rB := below_chain B.out (by omega) hb'; clear B; have B := Lib.hid rB; clear rB
  have em10 : Below w8.heap.size w8 w10 := below_chain em9 (by omega) hb'
  clear hb hb'
  go_wp2_with fail
  refine hK _ _ ⟨⟨_, em10⟩, rfl⟩ ?_
  clear hK K
  repeat (first | (refine Mix.wpMix_read (by rfl) ?_; go_big_quiet_step (fail); refine wpQuiet_nil ?_) | (refine Mix.wpMix_pure (by rfl) ?_; go_big_quiet_step (fail); refine wpQuiet_nil ?_))
  (refine Mix.wpMix_nil ?_; try simp only [Exit.then])
  clear fx_c8_a0_0
  clear fx_c8_a0_1
  clear fx_c8_a0_2
  clear fx_c8_o22_0
  clear fx_c8_o22_1
  clear fx_c8_o22_2
  clear Fo32
  go_wp2_with fail
  refine (toInt64S_c _ _ _ _ _ (by exact (P1.out.1)) (by omega)).mono ?_
  rintro e w11 ⟨rfl, q11, hb⟩
  have hb' : Below w10.heap.size w10 w11 := (by first | (with_reducible exact hb) | (with_reducible exact up1 hb) | (with_reducible exact up2 hb) | (with_reducible exact up3 hb) | (with_reducible exact up4 hb) | (with_reducible exact below_of_drew hb) | (with_reducible exact below_of_drew (up1 hb)))
  have z11 := hb'.size
  have c11_a0_0 : w11.cell? ⟨w.heap.size, 0, none⟩ = some (.int .i64 sy0) := keepc hb' c10_a0_0
  clear c10_a0_0 ac10_a0_0
  have c11_a0_1 : w11.cell? ⟨w.heap.size, 1, none⟩ = some (.int .i64 st0) := keepc hb' c10_a0_1
  clear c10_a0_1 ac10_a0_1
  have c11_a0_2 : w11.cell? ⟨w.heap.size, 2, none⟩ = some (.slice A0 n0 c0) := keepc hb' c10_a0_2
  clear c10_a0_2 ac10_a0_2
  have c11_o22_0 : w11.cell? ⟨w5.heap.size, 0, none⟩ = some (.int .i64 sy0) := keepc hb' c10_o22_0
  clear c10_o22_0 ac10_o22_0
  have c11_o22_1 : w11.cell? ⟨w5.heap.size, 1, none⟩ = some (.int .i64 st0) := keepc hb' c10_o22_1
  clear c10_o22_1 ac10_o22_1
  have c11_o22_2 : w11.cell? ⟨w5.heap.size, 2, none⟩ = some (.slice (some ⟨g021, 0, none⟩) n0 n0) := keepc hb' c10_o22_2
  clear c10_o22_2 ac10_o22_2
  have ac11_a0_0 := fun o => keepa o c11_a0_0
  have ac11_a0_1 := fun o => keepa o c11_a0_1
  have ac11_a0_2 := fun o => keepa o c11_a0_2
  have ac11_o22_0 := fun o => keepa o c11_o22_0
  have ac11_o22_1 := fun o => keepa o c11_o22_1
  have ac11_o22_2 := fun o => keepa o c11_o22_2
  have rP0 := P0.out.below hb'; clear P0; have P0 := Lib.hid rP0; clear rP0
  have rP1 := P1.out.below hb'; clear P1; have P1 := Lib.hid rP1; clear rP1
  have rFo12 := Fo12.out.below hb'; clear Fo12; have Fo12 := Lib.hid rFo12; clear rFo12
  have rFo13 := Fo13.out.below hb'; clear Fo13; have Fo13 := Lib.hid rFo13; clear rFo13
  have rFo20 := Fo20.out.below hb'; clear Fo20; have Fo20 := Lib.hid rFo20; clear rFo20
  have rFo22 := Fo22.out.below hb'; clear Fo22; have Fo22 := Lib.hid rFo22; clear rFo22
  have rFo23 := Fo23.out.below hb'; clear Fo23; have Fo23 := Lib.hid rFo23; clear rFo23
  have rFo30 := Fo30.out.below hb'; clear Fo30; have Fo30 := Lib.hid rFo30; clear rFo30
  have rB := below_chain B.out (by omega) hb'; clear B; have B := Lib.hid rB; clear rB
  have Fo33 := Lib.hid q11; clear q11
  clear hb hb'
  go_wp2_with fail
  refine (eqInt64S_t _ _ _ _ _ _ _ _ (by exact (Fo23.out.rdI)) (by exact (Fo33.out.rdI)) (by omega)).mono ?_
  rintro e w12 ⟨rfl, hb⟩
  have hb' : Below w11.heap.size w11 w12 := (by first | (with_reducible exact hb) | (with_reducible exact up1 hb) | (with_reducible exact up2 hb) | (with_reducible exact up3 hb) | (with_reducible exact up4 hb) | (with_reducible exact below_of_drew hb) | (with_reducible exact below_of_drew (up1 hb)))
  have z12 := hb'.size
  have c12_a0_0 : w12.cell? ⟨w.heap.size, 0, none⟩ = some (.int .i64 sy0) := keepc hb' c11_a0_0
  clear c11_a0_0 ac11_a0_0
  have c12_a0_1 : w12.cell? ⟨w.heap.size, 1, none⟩ = some (.int .i64 st0) := keepc hb' c11_a0_1
  clear c11_a0_1 ac11_a0_1
  have c12_a0_2 : w12.cell? ⟨w.heap.size, 2, none⟩ = some (.slice A0 n0 c0) := keepc hb' c11_a0_2
  clear c11_a0_2 ac11_a0_2
  have c12_o22_0 : w12.cell? ⟨w5.heap.size, 0, none⟩ = some (.int .i64 sy0) := keepc hb' c11_o22_0
  clear c11_o22_0 ac11_o22_0
  have c12_o22_1 : w12.cell? ⟨w5.heap.size, 1, none⟩ = some (.int .i64 st0) := keepc hb' c11_o22_1
  clear c11_o22_1 ac11_o22_1
  have c12_o22_2 : w12.cell? ⟨w5.heap.size, 2, none⟩ = some (.slice (some ⟨g021, 0, none⟩) n0 n0) := keepc hb' c11_o22_2
  clear c11_o22_2 ac11_o22_2
  have ac12_a0_0 := fun o => keepa o c12_a0_0
  have ac12_a0_1 := fun o => keepa o c12_a0_1
  have ac12_a0_2 := fun o => keepa o c12_a0_2
  have ac12_o22_0 := fun o => keepa o c12_o22_0
  have ac12_o22_1 := fun o => keepa o c12_o22_1
  have ac12_o22_2 := fun o => keepa o c12_o22_2
  have rP0 := P0.out.below hb'; clear P0; have P0 := Lib.hid rP0; clear rP0
  have rP1 := P1.out.below hb'; clear P1; have P1 := Lib.hid rP1; clear rP1
  have rFo12 := Fo12.out.below hb'; clear Fo12; have Fo12 := Lib.hid rFo12; clear rFo12
  have rFo13 := Fo13.out.below hb'; clear Fo13; have Fo13 := Lib.hid rFo13; clear rFo13
  have rFo20 := Fo20.out.below hb'; clear Fo20; have Fo20 := Lib.hid rFo20; clear rFo20
  have rFo22 := Fo22.out.below hb'; clear Fo22; have Fo22 := Lib.hid rFo22; clear rFo22
  have rFo23 := Fo23.out.below hb'; clear Fo23; have Fo23 := Lib.hid rFo23; clear rFo23
  have rFo30 := Fo30.out.below hb'; clear Fo30; have Fo30 := Lib.hid rFo30; clear rFo30
  have rFo33 := Fo33.out.below hb'; clear Fo33; have Fo33 := Lib.hid rFo33; clear rFo33
  have rB := below_chain B.out (by omega) hb'; clear B; have B := Lib.hid rB; clear rB
  clear hb hb'
  go_wp2_with fail
  refine (markMachine_c _ _ _ _ _ _ _ _ _ _ (by exact (Fo22.out)) (by omega) (by omega) (by omega)).mono ?_
  rintro e w13 ⟨rfl, q13, hk⟩
  have hk' : KeepR w4.heap.size w5.heap.size w12 w13 := (by first | (with_reducible exact hk) | (with_reducible exact hk.up1) | (with_reducible exact hk.up1.up1))
  have z13 := hk'.size
  have c13_a0_0 : w13.cell? ⟨w.heap.size, 0, none⟩ = some (.int .i64 sy0) := hk'.cell (by simp <;> omega) c12_a0_0
  clear c12_a0_0 ac12_a0_0
  have c13_a0_1 : w13.cell? ⟨w.heap.size, 1, none⟩ = some (.int .i64 st0) := hk'.cell (by simp <;> omega) c12_a0_1
  clear c12_a0_1 ac12_a0_1
  have c13_a0_2 : w13.cell? ⟨w.heap.size, 2, none⟩ = some (.slice A0 n0 c0) := hk'.cell (by simp <;> omega) c12_a0_2
  clear c12_a0_2 ac12_a0_2
  have c13_o22_0 : w13.cell? ⟨w5.heap.size, 0, none⟩ = some (.int .i64 sy0) := hk'.cell (by simp <;> omega) c12_o22_0
  clear c12_o22_0 ac12_o22_0
  have c13_o22_1 : w13.cell? ⟨w5.heap.size, 1, none⟩ = some (.int .i64 st0) := hk'.cell (by simp <;> omega) c12_o22_1
  clear c12_o22_1 ac12_o22_1
  have c13_o22_2 : w13.cell? ⟨w5.heap.size, 2, none⟩ = some (.slice (some ⟨g021, 0, none⟩) n0 n0) := hk'.cell (by simp <;> omega) c12_o22_2
  clear c12_o22_2 ac12_o22_2
  have ac13_a0_0 := fun o => keepa o c13_a0_0
  have ac13_a0_1 := fun o => keepa o c13_a0_1
  have ac13_a0_2 := fun o => keepa o c13_a0_2
  have ac13_o22_0 := fun o => keepa o c13_o22_0
  have ac13_o22_1 := fun o => keepa o c13_o22_1
  have ac13_o22_2 := fun o => keepa o c13_o22_2
  have rP0 := P0.out.keep hk' (by omega); clear P0; have P0 := Lib.hid rP0; clear rP0
  have rP1 := P1.out.keep hk' (by omega); clear P1; have P1 := Lib.hid rP1; clear rP1
  have rFo12 := Fo12.out.keep hk' (by omega); clear Fo12; have Fo12 := Lib.hid rFo12; clear rFo12
  have rFo13 := Fo13.out.keep hk' (by omega); clear Fo13; have Fo13 := Lib.hid rFo13; clear rFo13
  have rFo20 := Fo20.out.keep hk' (by omega); clear Fo20; have Fo20 := Lib.hid rFo20; clear rFo20
  have rFo22 := q13; clear Fo22; have Fo22 := Lib.hid rFo22; clear rFo22 q13
  have rFo23 := Fo23.out.keep hk' (by omega); clear Fo23; have Fo23 := Lib.hid rFo23; clear rFo23
  have rFo30 := Fo30.out.keep hk' (by omega); clear Fo30; have Fo30 := Lib.hid rFo30; clear rFo30
  have rFo33 := Fo33.out.keep hk' (by omega); clear Fo33; have Fo33 := Lib.hid rFo33; clear rFo33
  have rB := B.out.trans (hk'.below (B := w.heap.size) (by omega) (by omega)); clear B; have B := Lib.hid rB; clear rB
  clear hk hk'
  go_wp2_with fail
  refine (markInt64S_c _ _ _ _ _ _ _ _ (by exact (Fo23.out)) (by omega) (by omega) (by omega)).mono ?_
  rintro e w14 ⟨rfl, q14, hk⟩
  have hk' : KeepR (w5.heap.size + 1) w6.heap.size w13 w14 := (by first | (with_reducible exact hk) | (with_reducible exact hk.up1) | (with_reducible exact hk.up1.up1))
  have z14 := hk'.size
  have c14_a0_0 : w14.cell? ⟨w.heap.size, 0, none⟩ = some (.int .i64 sy0) := hk'.cell (by simp <;> omega) c13_a0_0
  clear c13_a0_0 ac13_a0_0
  have c14_a0_1 : w14.cell? ⟨w.heap.size, 1, none⟩ = some (.int .i64 st0) := hk'.cell (by simp <;> omega) c13_a0_1
  clear c13_a0_1 ac13_a0_1
  have c14_a0_2 : w14.cell? ⟨w.heap.size, 2, none⟩ = some (.slice A0 n0 c0) := hk'.cell (by simp <;> omega) c13_a0_2
  clear c13_a0_2 ac13_a0_2
  have c14_o22_0 : w14.cell? ⟨w5.heap.size, 0, none⟩ = some (.int .i64 sy0) := hk'.cell (by simp <;> omega) c13_o22_0
  clear c13_o22_0 ac13_o22_0
  have c14_o22_1 : w14.cell? ⟨w5.heap.size, 1, none⟩ = some (.int .i64 st0) := hk'.cell (by simp <;> omega) c13_o22_1
  clear c13_o22_1 ac13_o22_1
  have c14_o22_2 : w14.cell? ⟨w5.heap.size, 2, none⟩ = some (.slice (some ⟨g021, 0, none⟩) n0 n0) := hk'.cell (by simp <;> omega) c13_o22_2
  clear c13_o22_2 ac13_o22_2
  have ac14_a0_0 := fun o => keepa o c14_a0_0
  have ac14_a0_1 := fun o => keepa o c14_a0_1
  have ac14_a0_2 := fun o => keepa o c14_a0_2
  have ac14_o22_0 := fun o => keepa o c14_o22_0
  have ac14_o22_1 := fun o => keepa o c14_o22_1
  have ac14_o22_2 := fun o => keepa o c14_o22_2
  have rP0 := P0.out.keep hk' (by omega); clear P0; have P0 := Lib.hid rP0; clear rP0
  have rP1 := P1.out.keep hk' (by omega); clear P1; have P1 := Lib.hid rP1; clear rP1
  have rFo12 := Fo12.out.keep hk' (by omega); clear Fo12; have Fo12 := Lib.hid rFo12; clear rFo12
  have rFo13 := Fo13.out.keep hk' (by omega); clear Fo13; have Fo13 := Lib.hid rFo13; clear rFo13
  have rFo20 := Fo20.out.keep hk' (by omega); clear Fo20; have Fo20 := Lib.hid rFo20; clear rFo20
  have rFo22 := Fo22.out.keep hk' (by omega); clear Fo22; have Fo22 := Lib.hid rFo22; clear rFo22
  have rFo23 := q14; clear Fo23; have Fo23 := Lib.hid rFo23; clear rFo23 q14
  have rFo30 := Fo30.out.keep hk' (by omega); clear Fo30; have Fo30 := Lib.hid rFo30; clear rFo30
  have rFo33 := Fo33.out.keep hk' (by omega); clear Fo33; have Fo33 := Lib.hid rFo33; clear rFo33
  have rB := B.out.trans (hk'.below (B := w.heap.size) (by omega) (by omega)); clear B; have B := Lib.hid rB; clear rB
  clear hk hk'
  go_wp2_with fail
  refine (eqInt64SS_t _ _ _ _ _ _ _ _ _ (by exact (Fo30.out.rd)) (by exact (Fo20.out.rd)) (by omega) hI0_o30 (hm0_o30.out.trans hm0_o20.out.symm)).mono ?_
  rintro e w15 ⟨rfl, hb⟩
  have hb' : Below w14.heap.size w14 w15 := (by first | (with_reducible exact hb) | (with_reducible exact up1 hb) | (with_reducible exact up2 hb) | (with_reducible exact up3 hb) | (with_reducible exact up4 hb) | (with_reducible exact below_of_drew hb) | (with_reducible exact below_of_drew (up1 hb)))
  have z15 := hb'.size
  have c15_a0_0 : w15.cell? ⟨w.heap.size, 0, none⟩ = some (.int .i64 sy0) := keepc hb' c14_a0_0
  clear c14_a0_0 ac14_a0_0
  have c15_a0_1 : w15.cell? ⟨w.heap.size, 1, none⟩ = some (.int .i64 st0) := keepc hb' c14_a0_1
  clear c14_a0_1 ac14_a0_1
  have c15_a0_2 : w15.cell? ⟨w.heap.size, 2, none⟩ = some (.slice A0 n0 c0) := keepc hb' c14_a0_2
  clear c14_a0_2 ac14_a0_2
  have c15_o22_0 : w15.cell? ⟨w5.heap.size, 0, none⟩ = some (.int .i64 sy0) := keepc hb' c14_o22_0
  clear c14_o22_0 ac14_o22_0
  have c15_o22_1 : w15.cell? ⟨w5.heap.size, 1, none⟩ = some (.int .i64 st0) := keepc hb' c14_o22_1
  clear c14_o22_1 ac14_o22_1
  have c15_o22_2 : w15.cell? ⟨w5.heap.size, 2, none⟩ = some (.slice (some ⟨g021, 0, none⟩) n0 n0) := keepc hb' c14_o22_2
  clear c14_o22_2 ac14_o22_2
  have ac15_a0_0 := fun o => keepa o c15_a0_0
  have ac15_a0_1 := fun o => keepa o c15_a0_1
  have ac15_a0_2 := fun o => keepa o c15_a0_2
  have ac15_o22_0 := fun o => keepa o c15_o22_0
  have ac15_o22_1 := fun o => keepa o c15_o22_1
  have ac15_o22_2 := fun o => keepa o c15_o22_2
  have rP0 := P0.out.below hb'; clear P0; have P0 := Lib.hid rP0; clear rP0
  have rP1 := P1.out.below hb'; clear P1; have P1 := Lib.hid rP1; clear rP1
  have rFo12 := Fo12.out.below hb'; clear Fo12; have Fo12 := Lib.hid rFo12; clear rFo12
  have rFo13 := Fo13.out.below hb'; clear Fo13; have Fo13 := Lib.hid rFo13; clear rFo13
  have rFo20 := Fo20.out.below hb'; clear Fo20; have Fo20 := Lib.hid rFo20; clear rFo20
  have rFo22 := Fo22.out.below hb'; clear Fo22; have Fo22 := Lib.hid rFo22; clear rFo22
  have rFo23 := Fo23.out.below hb'; clear Fo23; have Fo23 := Lib.hid rFo23; clear rFo23
  have rFo30 := Fo30.out.below hb'; clear Fo30; have Fo30 := Lib.hid rFo30; clear rFo30
  have rFo33 := Fo33.out.below hb'; clear Fo33; have Fo33 := Lib.hid rFo33; clear rFo33
  have rB := below_chain B.out (by omega) hb'; clear B; have B := Lib.hid rB; clear rB
  clear hb hb'
  go_wp2_with fail
  refine (markInt64SS_c _ _ _ _ _ _ _ _ (by exact (Fo30.out)) (by omega) hI0_o30 (by omega) (by omega) (by omega)).mono ?_
  rintro e w16 ⟨rfl, q16, hk⟩
  have hk' : KeepR w6.heap.size w7.heap.size w15 w16 := (by first | (with_reducible exact hk) | (with_reducible exact hk.up1) | (with_reducible exact hk.up1.up1))
  have z16 := hk'.size
  have c16_a0_0 : w16.cell? ⟨w.heap.size, 0, none⟩ = some (.int .i64 sy0) := hk'.cell (by simp <;> omega) c15_a0_0
  clear c15_a0_0 ac15_a0_0
  have c16_a0_1 : w16.cell? ⟨w.heap.size, 1, none⟩ = some (.int .i64 st0) := hk'.cell (by simp <;> omega) c15_a0_1
  clear c15_a0_1 ac15_a0_1
  have c16_a0_2 : w16.cell? ⟨w.heap.size, 2, none⟩ = some (.slice A0 n0 c0) := hk'.cell (by simp <;> omega) c15_a0_2
  clear c15_a0_2 ac15_a0_2
  have c16_o22_0 : w16.cell? ⟨w5.heap.size, 0, none⟩ = some (.int .i64 sy0) := hk'.cell (by simp <;> omega) c15_o22_0
  clear c15_o22_0 ac15_o22_0
  have c16_o22_1 : w16.cell? ⟨w5.heap.size, 1, none⟩ = some (.int .i64 st0) := hk'.cell (by simp <;> omega) c15_o22_1
  clear c15_o22_1 ac15_o22_1
  have c16_o22_2 : w16.cell? ⟨w5.heap.size, 2, none⟩ = some (.slice (some ⟨g021, 0, none⟩) n0 n0) := hk'.cell (by simp <;> omega) c15_o22_2
  clear c15_o22_2 ac15_o22_2
  have ac16_a0_0 := fun o => keepa o c16_a0_0
  have ac16_a0_1 := fun o => keepa o c16_a0_1
  have ac16_a0_2 := fun o => keepa o c16_a0_2
  have ac16_o22_0 := fun o => keepa o c16_o22_0
  have ac16_o22_1 := fun o => keepa o c16_o22_1
  have ac16_o22_2 := fun o => keepa o c16_o22_2
  have rP0 := P0.out.keep hk' (by omega); clear P0; have P0 := Lib.hid rP0; clear rP0
  have rP1 := P1.out.keep hk' (by omega); clear P1; have P1 := Lib.hid rP1; clear rP1
  have rFo12 := Fo12.out.keep hk' (by omega); clear Fo12; have Fo12 := Lib.hid rFo12; clear rFo12
  have rFo13 := Fo13.out.keep hk' (by omega); clear Fo13; have Fo13 := Lib.hid rFo13; clear rFo13
  have rFo20 := Fo20.out.keep hk' (by omega); clear Fo20; have Fo20 := Lib.hid rFo20; clear rFo20
  have rFo22 := Fo22.out.keep hk' (by omega); clear Fo22; have Fo22 := Lib.hid rFo22; clear rFo22
  have rFo23 := Fo23.out.keep hk' (by omega); clear Fo23; have Fo23 := Lib.hid rFo23; clear rFo23
  have rFo30 := q16; clear Fo30; have Fo30 := Lib.hid rFo30; clear rFo30 q16
  have rFo33 := Fo33.out.keep hk' (by omega); clear Fo33; have Fo33 := Lib.hid rFo33; clear rFo33
  have rB := B.out.trans (hk'.below (B := w.heap.size) (by omega) (by omega)); clear B; have B := Lib.hid rB; clear rB
  clear hk hk'
  go_wp2_with fail
  refine (heldInt64SS_c _ _ _ _ _ _ (by exact (Fo30.out.rd)) (by omega) hI0_o30 (by omega) (by omega) (by omega)).mono ?_
  rintro e w17 ⟨rfl, hb⟩
  have hb' : Below w16.heap.size w16 w17 := (by first | (with_reducible exact hb) | (with_reducible exact up1 hb) | (with_reducible exact up2 hb) | (with_reducible exact up3 hb) | (with_reducible exact up4 hb) | (with_reducible exact below_of_drew hb) | (with_reducible exact below_of_drew (up1 hb)))
  have z17 := hb'.size
  have c17_a0_0 : w17.cell? ⟨w.heap.size, 0, none⟩ = some (.int .i64 sy0) := keepc hb' c16_a0_0
  clear c16_a0_0 ac16_a0_0
  have c17_a0_1 : w17.cell? ⟨w.heap.size, 1, none⟩ = some (.int .i64 st0) := keepc hb' c16_a0_1
  clear c16_a0_1 ac16_a0_1
  have c17_a0_2 : w17.cell? ⟨w.heap.size, 2, none⟩ = some (.slice A0 n0 c0) := keepc hb' c16_a0_2
  clear c16_a0_2 ac16_a0_2
  have c17_o22_0 : w17.cell? ⟨w5.heap.size, 0, none⟩ = some (.int .i64 sy0) := keepc hb' c16_o22_0
  clear c16_o22_0 ac16_o22_0
  have c17_o22_1 : w17.cell? ⟨w5.heap.size, 1, none⟩ = some (.int .i64 st0) := keepc hb' c16_o22_1
  clear c16_o22_1 ac16_o22_1
  have c17_o22_2 : w17.cell? ⟨w5.heap.size, 2, none⟩ = some (.slice (some ⟨g021, 0, none⟩) n0 n0) := keepc hb' c16_o22_2
  clear c16_o22_2 ac16_o22_2
  have ac17_a0_0 := fun o => keepa o c17_a0_0
  have ac17_a0_1 := fun o => keepa o c17_a0_1
  have ac17_a0_2 := fun o => keepa o c17_a0_2
  have ac17_o22_0 := fun o => keepa o c17_o22_0
  have ac17_o22_1 := fun o => keepa o c17_o22_1
  have ac17_o22_2 := fun o => keepa o c17_o22_2
  have rP0 := P0.out.below hb'; clear P0; have P0 := Lib.hid rP0; clear rP0
  have rP1 := P1.out.below hb'; clear P1; have P1 := Lib.hid rP1; clear rP1
  have rFo12 := Fo12.out.below hb'; clear Fo12; have Fo12 := Lib.hid rFo12; clear rFo12
  have rFo13 := Fo13.out.below hb'; clear Fo13; have Fo13 := Lib.hid rFo13; clear rFo13
  have rFo20 := Fo20.out.below hb'; clear Fo20; have Fo20 := Lib.hid rFo20; clear rFo20
  have rFo22 := Fo22.out.below hb'; clear Fo22; have Fo22 := Lib.hid rFo22; clear rFo22
  have rFo23 := Fo23.out.below hb'; clear Fo23; have Fo23 := Lib.hid rFo23; clear rFo23
  have rFo30 := Fo30.out.below hb'; clear Fo30; have Fo30 := Lib.hid rFo30; clear rFo30
  have rFo33 := Fo33.out.below hb'; clear Fo33; have Fo33 := Lib.hid rFo33; clear rFo33
  have rB := below_chain B.out (by omega) hb'; clear B; have B := Lib.hid rB; clear rB
  clear hb hb'
  go_wp2_with fail
  refine (toMachine_c _ _ _ _ _ _ _ (by exact (P0.out.rd)) (by omega)).mono ?_
  rintro e w18 ⟨g034, rfl, q18, hb⟩
  have hb' : Below w17.heap.size w17 w18 := (by first | (with_reducible exact hb) | (with_reducible exact up1 hb) | (with_reducible exact up2 hb) | (with_reducible exact up3 hb) | (with_reducible exact up4 hb) | (with_reducible exact below_of_drew hb) | (with_reducible exact below_of_drew (up1 hb)))
  have z18 := hb'.size
  have c18_a0_0 : w18.cell? ⟨w.heap.size, 0, none⟩ = some (.int .i64 sy0) := keepc hb' c17_a0_0
  clear c17_a0_0 ac17_a0_0
  have c18_a0_1 : w18.cell? ⟨w.heap.size, 1, none⟩ = some (.int .i64 st0) := keepc hb' c17_a0_1
  clear c17_a0_1 ac17_a0_1
  have c18_a0_2 : w18.cell? ⟨w.heap.size, 2, none⟩ = some (.slice A0 n0 c0) := keepc hb' c17_a0_2
  clear c17_a0_2 ac17_a0_2
  have c18_o22_0 : w18.cell? ⟨w5.heap.size, 0, none⟩ = some (.int .i64 sy0) := keepc hb' c17_o22_0
  clear c17_o22_0 ac17_o22_0
  have c18_o22_1 : w18.cell? ⟨w5.heap.size, 1, none⟩ = some (.int .i64 st0) := keepc hb' c17_o22_1
  clear c17_o22_1 ac17_o22_1
  have c18_o22_2 : w18.cell? ⟨w5.heap.size, 2, none⟩ = some (.slice (some ⟨g021, 0, none⟩) n0 n0) := keepc hb' c17_o22_2
  clear c17_o22_2 ac17_o22_2
  have ac18_a0_0 := fun o => keepa o c18_a0_0
  have ac18_a0_1 := fun o => keepa o c18_a0_1
  have ac18_a0_2 := fun o => keepa o c18_a0_2
  have ac18_o22_0 := fun o => keepa o c18_o22_0
  have ac18_o22_1 := fun o => keepa o c18_o22_1
  have ac18_o22_2 := fun o => keepa o c18_o22_2
  have rP0 := P0.out.below hb'; clear P0; have P0 := Lib.hid rP0; clear rP0
  have rP1 := P1.out.below hb'; clear P1; have P1 := Lib.hid rP1; clear rP1
  have rFo12 := Fo12.out.below hb'; clear Fo12; have Fo12 := Lib.hid rFo12; clear rFo12
  have rFo13 := Fo13.out.below hb'; clear Fo13; have Fo13 := Lib.hid rFo13; clear rFo13
  have rFo20 := Fo20.out.below hb'; clear Fo20; have Fo20 := Lib.hid rFo20; clear rFo20
  have rFo22 := Fo22.out.below hb'; clear Fo22; have Fo22 := Lib.hid rFo22; clear rFo22
  have rFo23 := Fo23.out.below hb'; clear Fo23; have Fo23 := Lib.hid rFo23; clear rFo23
  have rFo30 := Fo30.out.below hb'; clear Fo30; have Fo30 := Lib.hid rFo30; clear rFo30
  have rFo33 := Fo33.out.below hb'; clear Fo33; have Fo33 := Lib.hid rFo33; clear rFo33
  have rB := below_chain B.out (by omega) hb'; clear B; have B := Lib.hid rB; clear rB
  have Fo35 := Lib.hid q18; clear q18
  clear hb hb'
  go_wp2_with fail
  refine (toInt64S_c _ _ _ _ _ (by exact (P1.out.1)) (by omega)).mono ?_
  rintro e w19 ⟨rfl, q19, hb⟩
  have hb' : Below w18.heap.size w18 w19 := (by first | (with_reducible exact hb) | (with_reducible exact up1 hb) | (with_reducible exact up2 hb) | (with_reducible exact up3 hb) | (with_reducible exact up4 hb) | (with_reducible exact below_of_drew hb) | (with_reducible exact below_of_drew (up1 hb)))
  have z19 := hb'.size
  have c19_a0_0 : w19.cell? ⟨w.heap.size, 0, none⟩ = some (.int .i64 sy0) := keepc hb' c18_a0_0
  clear c18_a0_0 ac18_a0_0
  have c19_a0_1 : w19.cell? ⟨w.heap.size, 1, none⟩ = some (.int .i64 st0) := keepc hb' c18_a0_1
  clear c18_a0_1 ac18_a0_1
  have c19_a0_2 : w19.cell? ⟨w.heap.size, 2, none⟩ = some (.slice A0 n0 c0) := keepc hb' c18_a0_2
  clear c18_a0_2 ac18_a0_2
  have c19_o22_0 : w19.cell? ⟨w5.heap.size, 0, none⟩ = some (.int .i64 sy0) := keepc hb' c18_o22_0
  clear c18_o22_0 ac18_o22_0
  have c19_o22_1 : w19.cell? ⟨w5.heap.size, 1, none⟩ = some (.int .i64 st0) := keepc hb' c18_o22_1
  clear c18_o22_1 ac18_o22_1
  have c19_o22_2 : w19.cell? ⟨w5.heap.size, 2, none⟩ = some (.slice (some ⟨g021, 0, none⟩) n0 n0) := keepc hb' c18_o22_2
  clear c18_o22_2 ac18_o22_2
  have ac19_a0_0 := fun o => keepa o c19_a0_0
  have ac19_a0_1 := fun o => keepa o c19_a0_1
  have ac19_a0_2 := fun o => keepa o c19_a0_2
  have ac19_o22_0 := fun o => keepa o c19_o22_0
  have ac19_o22_1 := fun o => keepa o c19_o22_1
  have ac19_o22_2 := fun o => keepa o c19_o22_2
  have rP0 := P0.out.below hb'; clear P0; have P0 := Lib.hid rP0; clear rP0
  have rP1 := P1.out.below hb'; clear P1; have P1 := Lib.hid rP1; clear rP1
  have rFo12 := Fo12.out.below hb'; clear Fo12; have Fo12 := Lib.hid rFo12; clear rFo12
  have rFo13 := Fo13.out.below hb'; clear Fo13; have Fo13 := Lib.hid rFo13; clear rFo13
  have rFo20 := Fo20.out.below hb'; clear Fo20; have Fo20 := Lib.hid rFo20; clear rFo20
  have rFo22 := Fo22.out.below hb'; clear Fo22; have Fo22 := Lib.hid rFo22; clear rFo22
  have rFo23 := Fo23.out.below hb'; clear Fo23; have Fo23 := Lib.hid rFo23; clear rFo23
  have rFo30 := Fo30.out.below hb'; clear Fo30; have Fo30 := Lib.hid rFo30; clear rFo30
  have rFo33 := Fo33.out.below hb'; clear Fo33; have Fo33 := Lib.hid rFo33; clear rFo33
  have rFo35 := Fo35.out.below hb'; clear Fo35; have Fo35 := Lib.hid rFo35; clear rFo35
  have rB := below_chain B.out (by omega) hb'; clear B; have B := Lib.hid rB; clear rB
  have Fo36 := Lib.hid q19; clear q19
  clear hb hb'
  go_wp2_with fail
  refine (iSegmentPredecessors_c _ _ _ _ _ _ _ _ _ _ _ (by exact (Fo35.out.rd)) (by exact (Fo36.out.rdI)) (by omega) (by omega) (Nat.le_refl _)).mono ?_
  rintro e w20 ⟨A37, n38, c39, its40, rfl, q41, l42, hb⟩
  have hb' : Below w19.heap.size w19 w20 := (by first | (with_reducible exact hb) | (with_reducible exact up1 hb) | (with_reducible exact up2 hb) | (with_reducible exact up3 hb) | (with_reducible exact up4 hb) | (with_reducible exact below_of_drew hb) | (with_reducible exact below_of_drew (up1 hb)))
  have z20 := hb'.size
  have c20_a0_0 : w20.cell? ⟨w.heap.size, 0, none⟩ = some (.int .i64 sy0) := keepc hb' c19_a0_0
  clear c19_a0_0 ac19_a0_0
  have c20_a0_1 : w20.cell? ⟨w.heap.size, 1, none⟩ = some (.int .i64 st0) := keepc hb' c19_a0_1
  clear c19_a0_1 ac19_a0_1
  have c20_a0_2 : w20.cell? ⟨w.heap.size, 2, none⟩ = some (.slice A0 n0 c0) := keepc hb' c19_a0_2
  clear c19_a0_2 ac19_a0_2
  have c20_o22_0 : w20.cell? ⟨w5.heap.size, 0, none⟩ = some (.int .i64 sy0) := keepc hb' c19_o22_0
  clear c19_o22_0 ac19_o22_0
  have c20_o22_1 : w20.cell? ⟨w5.heap.size, 1, none⟩ = some (.int .i64 st0) := keepc hb' c19_o22_1
  clear c19_o22_1 ac19_o22_1
  have c20_o22_2 : w20.cell? ⟨w5.heap.size, 2, none⟩ = some (.slice (some ⟨g021, 0, none⟩) n0 n0) := keepc hb' c19_o22_2
  clear c19_o22_2 ac19_o22_2
  have ac20_a0_0 := fun o => keepa o c20_a0_0
  have ac20_a0_1 := fun o => keepa o c20_a0_1
  have ac20_a0_2 := fun o => keepa o c20_a0_2
  have ac20_o22_0 := fun o => keepa o c20_o22_0
  have ac20_o22_1 := fun o => keepa o c20_o22_1
  have ac20_o22_2 := fun o => keepa o c20_o22_2
  have rP0 := P0.out.below hb'; clear P0; have P0 := Lib.hid rP0; clear rP0
  have rP1 := P1.out.below hb'; clear P1; have P1 := Lib.hid rP1; clear rP1
  have rFo12 := Fo12.out.below hb'; clear Fo12; have Fo12 := Lib.hid rFo12; clear rFo12
  have rFo13 := Fo13.out.below hb'; clear Fo13; have Fo13 := Lib.hid rFo13; clear rFo13
  have rFo20 := Fo20.out.below hb'; clear Fo20; have Fo20 := Lib.hid rFo20; clear rFo20
  have rFo22 := Fo22.out.below hb'; clear Fo22; have Fo22 := Lib.hid rFo22; clear rFo22
  have rFo23 := Fo23.out.below hb'; clear Fo23; have Fo23 := Lib.hid rFo23; clear rFo23
  have rFo30 := Fo30.out.below hb'; clear Fo30; have Fo30 := Lib.hid rFo30; clear rFo30
  have rFo33 := Fo33.out.below hb'; clear Fo33; have Fo33 := Lib.hid rFo33; clear rFo33
  have rFo35 := Fo35.out.below hb'; clear Fo35; have Fo35 := Lib.hid rFo35; clear rFo35
  have rFo36 := Fo36.out.below hb'; clear Fo36; have Fo36 := Lib.hid rFo36; clear rFo36
  have rB := below_chain B.out (by omega) hb'; clear B; have B := Lib.hid rB; clear rB
  have Fo43 := Lib.hid q41; clear q41
  obtain ⟨ln_o43, bI0_o43, hs0_o43, bm0_o43⟩ := l42
  have hI0_o43 := (fun t ht => Nat.le_trans (bI0_o43 t ht) (by omega) : ∀ t ∈ its40, t.n ≤ 1000000000); have hm0_o43 := Lib.hid bm0_o43; clear bI0_o43 bm0_o43
  clear hb hb'
  go_wp2_with fail
  refine (eqInt64SS_t _ _ _ _ _ _ _ _ _ (by exact (Fo43.out.rd)) (by exact (Fo20.out.rd)) (by omega) hI0_o43 (hm0_o43.out.trans hm0_o20.out.symm)).mono ?_
  rintro e w21 ⟨rfl, hb⟩
  have hb' : Below w20.heap.size w20 w21 := (by first | (with_reducible exact hb) | (with_reducible exact up1 hb) | (with_reducible exact up2 hb) | (with_reducible exact up3 hb) | (with_reducible exact up4 hb) | (with_reducible exact below_of_drew hb) | (with_reducible exact below_of_drew (up1 hb)))
  have z21 := hb'.size
  have c21_a0_0 : w21.cell? ⟨w.heap.size, 0, none⟩ = some (.int .i64 sy0) := keepc hb' c20_a0_0
  clear c20_a0_0 ac20_a0_0
  have c21_a0_1 : w21.cell? ⟨w.heap.size, 1, none⟩ = some (.int .i64 st0) := keepc hb' c20_a0_1
  clear c20_a0_1 ac20_a0_1
  have c21_a0_2 : w21.cell? ⟨w.heap.size, 2, none⟩ = some (.slice A0 n0 c0) := keepc hb' c20_a0_2
  clear c20_a0_2 ac20_a0_2
  have c21_o22_0 : w21.cell? ⟨w5.heap.size, 0, none⟩ = some (.int .i64 sy0) := keepc hb' c20_o22_0
  clear c20_o22_0 ac20_o22_0
  have c21_o22_1 : w21.cell? ⟨w5.heap.size, 1, none⟩ = some (.int .i64 st0) := keepc hb' c20_o22_1
  clear c20_o22_1 ac20_o22_1
  have c21_o22_2 : w21.cell? ⟨w5.heap.size, 2, none⟩ = some (.slice (some ⟨g021, 0, none⟩) n0 n0) := keepc hb' c20_o22_2
  clear c20_o22_2 ac20_o22_2
  have ac21_a0_0 := fun o => keepa o c21_a0_0
  have ac21_a0_1 := fun o => keepa o c21_a0_1
  have ac21_a0_2 := fun o => keepa o c21_a0_2
  have ac21_o22_0 := fun o => keepa o c21_o22_0
  have ac21_o22_1 := fun o => keepa o c21_o22_1
  have ac21_o22_2 := fun o => keepa o c21_o22_2
  have rP0 := P0.out.below hb'; clear P0; have P0 := Lib.hid rP0; clear rP0
  have rP1 := P1.out.below hb'; clear P1; have P1 := Lib.hid rP1; clear rP1
  have rFo12 := Fo12.out.below hb'; clear Fo12; have Fo12 := Lib.hid rFo12; clear rFo12
  have rFo13 := Fo13.out.below hb'; clear Fo13; have Fo13 := Lib.hid rFo13; clear rFo13
  have rFo20 := Fo20.out.below hb'; clear Fo20; have Fo20 := Lib.hid rFo20; clear rFo20
  have rFo22 := Fo22.out.below hb'; clear Fo22; have Fo22 := Lib.hid rFo22; clear rFo22
  have rFo23 := Fo23.out.below hb'; clear Fo23; have Fo23 := Lib.hid rFo23; clear rFo23
  have rFo30 := Fo30.out.below hb'; clear Fo30; have Fo30 := Lib.hid rFo30; clear rFo30
  have rFo33 := Fo33.out.below hb'; clear Fo33; have Fo33 := Lib.hid rFo33; clear rFo33
  have rFo35 := Fo35.out.below hb'; clear Fo35; have Fo35 := Lib.hid rFo35; clear rFo35
  have rFo36 := Fo36.out.below hb'; clear Fo36; have Fo36 := Lib.hid rFo36; clear rFo36
  have rFo43 := Fo43.out.below hb'; clear Fo43; have Fo43 := Lib.hid rFo43; clear rFo43
  have rB := below_chain B.out (by omega) hb'; clear B; have B := Lib.hid rB; clear rB
  clear hb hb'
  go_wp2_with fail
  refine (heldInt64SS_c _ _ _ _ _ _ (by exact (Fo30.out.rd)) (by omega) hI0_o30 (by omega) (by omega) (by omega)).mono ?_
  rintro e w22 ⟨rfl, hb⟩
  have hb' : Below w21.heap.size w21 w22 := (by first | (with_reducible exact hb) | (with_reducible exact up1 hb) | (with_reducible exact up2 hb) | (with_reducible exact up3 hb) | (with_reducible exact up4 hb) | (with_reducible exact below_of_drew hb) | (with_reducible exact below_of_drew (up1 hb)))
  have z22 := hb'.size
  have c22_a0_0 : w22.cell? ⟨w.heap.size, 0, none⟩ = some (.int .i64 sy0) := keepc hb' c21_a0_0
  clear c21_a0_0 ac21_a0_0
  have c22_a0_1 : w22.cell? ⟨w.heap.size, 1, none⟩ = some (.int .i64 st0) := keepc hb' c21_a0_1
  clear c21_a0_1 ac21_a0_1
  have c22_a0_2 : w22.cell? ⟨w.heap.size, 2, none⟩ = some (.slice A0 n0 c0) := keepc hb' c21_a0_2
  clear c21_a0_2 ac21_a0_2
  have c22_o22_0 : w22.cell? ⟨w5.heap.size, 0, none⟩ = some (.int .i64 sy0) := keepc hb' c21_o22_0
  clear c21_o22_0 ac21_o22_0
  have c22_o22_1 : w22.cell? ⟨w5.heap.size, 1, none⟩ = some (.int .i64 st0) := keepc hb' c21_o22_1
  clear c21_o22_1 ac21_o22_1
  have c22_o22_2 : w22.cell? ⟨w5.heap.size, 2, none⟩ = some (.slice (some ⟨g021, 0, none⟩) n0 n0) := keepc hb' c21_o22_2
  clear c21_o22_2 ac21_o22_2
  have ac22_a0_0 := fun o => keepa o c22_a0_0
  have ac22_a0_1 := fun o => keepa o c22_a0_1
  have ac22_a0_2 := fun o => keepa o c22_a0_2
  have ac22_o22_0 := fun o => keepa o c22_o22_0
  have ac22_o22_1 := fun o => keepa o c22_o22_1
  have ac22_o22_2 := fun o => keepa o c22_o22_2
  have rP0 := P0.out.below hb'; clear P0; have P0 := Lib.hid rP0; clear rP0
  have rP1 := P1.out.below hb'; clear P1; have P1 := Lib.hid rP1; clear rP1
  have rFo12 := Fo12.out.below hb'; clear Fo12; have Fo12 := Lib.hid rFo12; clear rFo12
  have rFo13 := Fo13.out.below hb'; clear Fo13; have Fo13 := Lib.hid rFo13; clear rFo13
  have rFo20 := Fo20.out.below hb'; clear Fo20; have Fo20 := Lib.hid rFo20; clear rFo20
  have rFo22 := Fo22.out.below hb'; clear Fo22; have Fo22 := Lib.hid rFo22; clear rFo22
  have rFo23 := Fo23.out.below hb'; clear Fo23; have Fo23 := Lib.hid rFo23; clear rFo23
  have rFo30 := Fo30.out.below hb'; clear Fo30; have Fo30 := Lib.hid rFo30; clear rFo30
  have rFo33 := Fo33.out.below hb'; clear Fo33; have Fo33 := Lib.hid rFo33; clear rFo33
  have rFo35 := Fo35.out.below hb'; clear Fo35; have Fo35 := Lib.hid rFo35; clear rFo35
  have rFo36 := Fo36.out.below hb'; clear Fo36; have Fo36 := Lib.hid rFo36; clear rFo36
  have rFo43 := Fo43.out.below hb'; clear Fo43; have Fo43 := Lib.hid rFo43; clear rFo43
  have rB := below_chain B.out (by omega) hb'; clear B; have B := Lib.hid rB; clear rB
  clear hb hb'
  go_wp2
  go_ret
  exact ⟨rfl, B.out⟩
end Go.Proofs.Ytdofcidnomjcdaa
