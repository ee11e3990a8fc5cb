/-
  FnExactRepeatsIn returns true for every input: its walk, out of the contracts.
-/
import Derived.Test.YtmmgejnhfpfmnaaLawMachine
import Derived.Test.YtmmgejnhfpfmnaaLawFormula
import Derived.Test.YtmmgejnhfpfmnaaLawI
import Derived.Test.YtmmgejnhfpfmnaaC27z
import Derived.Test.YtmmgejnhfpfmnaaOpen
namespace Go.Proofs.Ytmmgejnhfpfmnaa
open Go.RowKit

set_option maxHeartbeats 4000000 in
set_option maxRecDepth 100000 in
theorem walkRepeatsIn (sy0 : Int) (st0 : Int) (A0 : Option Addr) (n0 : Nat) (c0 : Nat) (xs0 : List (Int × Int × Int)) (x1 : Int) (A2 : Option Addr) (n2 : Nat) (c2 : Nat) (xs2 : List Int) (A3 : Option Addr) (n3 : Nat) (c3 : Nat) (xs3 : List Int) (A4 : Option Addr) (n4 : Nat) (c4 : Nat) (xs4 : List Int) (w : World) (h0 : RdS w [sgX enc3 3 A0 n0 xs0]) (hb0_0 : n0 ≤ 9223372036854775807) (_o0 : i64ok sy0) (_p0 : i64ok st0) (_oo0 : ∀ x ∈ xs0, i64ok x.1 ∧ i64ok x.2.1 ∧ i64ok x.2.2) (_o1 : i64ok x1) (h2 : RdI w A2 n2 xs2) (hb2 : n2 ≤ 9223372036854775807) (_oo2 : ∀ x ∈ xs2, i64ok x) (h3 : RdI w A3 n3 xs3) (hb3 : n3 ≤ 9223372036854775807) (_oo3 : ∀ x ∈ xs3, i64ok x) (h4 : RdI w A4 n4 xs4) (hb4 : n4 ≤ 9223372036854775807) (_oo4 : ∀ x ∈ xs4, i64ok x) :
    Calls Try.prog 3 #[.agg #[.int .i64 sy0, .int .i64 st0, .slice A0 n0 c0], .int .i64 x1, .slice A2 n2 c2, .slice A3 n3 c3, .slice A4 n4 c4] w fun e w' => e = .returned (.bool true) ∧ Below w.heap.size w w' := by
  have P0 := Lib.hid (RdSU.mk' h0); clear h0
  have P2 := Lib.hid (RdU.mk' h2); clear h2
  have P3 := Lib.hid (RdU.mk' h3); clear h3
  have P4 := Lib.hid (RdU.mk' h4); clear h4
  by_cases hsa2 : 1048576 < n2
  · go_enter Try.func3, Try.ntmps3
    go_wp2
    go_ret
    exact ⟨rfl, below_size.alloc (Nat.le_refl _) _⟩
  by_cases hsa3 : 1048576 < n3
  · go_enter Try.func3, Try.ntmps3
    go_wp2
    go_ret
    exact ⟨rfl, below_size.alloc (Nat.le_refl _) _⟩
  by_cases hsa4 : 1048576 < n4
  · go_enter Try.func3, Try.ntmps3
    go_wp2
    go_ret
    exact ⟨rfl, below_size.alloc (Nat.le_refl _) _⟩
  go_enter Try.func3, Try.ntmps3
  go_wp2_with fail
  refine (szMachine_c _ _ _ _ _ xs0 _ _ hb0_0 (by omega) (by omega)).mono ?_
  rintro e w1 ⟨rfl, hb⟩
  have hb' : Below w.heap.size w w1 := (by first | (with_reducible exact hb) | (with_reducible exact up1 hb) | (with_reducible exact up2 hb) | (with_reducible exact up3 hb) | (with_reducible exact up4 hb) | (with_reducible exact below_of_drew hb) | (with_reducible exact below_of_drew (up1 hb)))
  have z1 := hb'.size
  have c1_a0_0 : w1.cell? ⟨w.heap.size, 0, none⟩ = some (.int .i64 sy0) := keepc hb (by first | (simp; done) | (rw [World.cell?_alloc_past _ _ _ (by simp <;> omega)]; simp; done) | (rw [World.cell?_alloc_past _ _ _ (by simp <;> omega), World.cell?_alloc_past _ _ _ (by simp <;> omega)]; simp; done) | (rw [World.cell?_alloc_past _ _ _ (by simp <;> omega), World.cell?_alloc_past _ _ _ (by simp <;> omega), World.cell?_alloc_past _ _ _ (by simp <;> omega)]; simp; done) | (rw [World.cell?_alloc_at _ _ _ _ (by simp)]; simp; done) | (rw [World.cell?_alloc_past _ _ _ (by simp <;> omega), World.cell?_alloc_at _ _ _ _ (by simp)]; simp; done) | (rw [World.cell?_alloc_past _ _ _ (by simp <;> omega), World.cell?_alloc_past _ _ _ (by simp <;> omega), World.cell?_alloc_at _ _ _ _ (by simp)]; simp; done) | (rw [World.cell?_alloc_past _ _ _ (by simp <;> omega), World.cell?_alloc_past _ _ _ (by simp <;> omega), World.cell?_alloc_past _ _ _ (by simp <;> omega), World.cell?_alloc_at _ _ _ _ (by simp)]; simp; done))
  have hl_c1_a0_0 : w.heap.size < w1.heap.size := World.block_lt_of_cell? w1 _ c1_a0_0
  have c1_a0_1 : w1.cell? ⟨w.heap.size, 1, none⟩ = some (.int .i64 st0) := keepc hb (by first | (simp; done) | (rw [World.cell?_alloc_past _ _ _ (by simp <;> omega)]; simp; done) | (rw [World.cell?_alloc_past _ _ _ (by simp <;> omega), World.cell?_alloc_past _ _ _ (by simp <;> omega)]; simp; done) | (rw [World.cell?_alloc_past _ _ _ (by simp <;> omega), World.cell?_alloc_past _ _ _ (by simp <;> omega), World.cell?_alloc_past _ _ _ (by simp <;> omega)]; simp; done) | (rw [World.cell?_alloc_at _ _ _ _ (by simp)]; simp; done) | (rw [World.cell?_alloc_past _ _ _ (by simp <;> omega), World.cell?_alloc_at _ _ _ _ (by simp)]; simp; done) | (rw [World.cell?_alloc_past _ _ _ (by simp <;> omega), World.cell?_alloc_past _ _ _ (by simp <;> omega), World.cell?_alloc_at _ _ _ _ (by simp)]; simp; done) | (rw [World.cell?_alloc_past _ _ _ (by simp <;> omega), World.cell?_alloc_past _ _ _ (by simp <;> omega), World.cell?_alloc_past _ _ _ (by simp <;> omega), World.cell?_alloc_at _ _ _ _ (by simp)]; simp; done))
  have c1_a0_2 : w1.cell? ⟨w.heap.size, 2, none⟩ = some (.slice A0 n0 c0) := keepc hb (by first | (simp; done) | (rw [World.cell?_alloc_past _ _ _ (by simp <;> omega)]; simp; done) | (rw [World.cell?_alloc_past _ _ _ (by simp <;> omega), World.cell?_alloc_past _ _ _ (by simp <;> omega)]; simp; done) | (rw [World.cell?_alloc_past _ _ _ (by simp <;> omega), World.cell?_alloc_past _ _ _ (by simp <;> omega), World.cell?_alloc_past _ _ _ (by simp <;> omega)]; simp; done) | (rw [World.cell?_alloc_at _ _ _ _ (by simp)]; simp; done) | (rw [World.cell?_alloc_past _ _ _ (by simp <;> omega), World.cell?_alloc_at _ _ _ _ (by simp)]; simp; done) | (rw [World.cell?_alloc_past _ _ _ (by simp <;> omega), World.cell?_alloc_past _ _ _ (by simp <;> omega), World.cell?_alloc_at _ _ _ _ (by simp)]; simp; done) | (rw [World.cell?_alloc_past _ _ _ (by simp <;> omega), World.cell?_alloc_past _ _ _ (by simp <;> omega), World.cell?_alloc_past _ _ _ (by simp <;> omega), World.cell?_alloc_at _ _ _ _ (by simp)]; simp; done))
  have ac1_a0_0 := fun o => keepa o c1_a0_0
  have ac1_a0_1 := fun o => keepa o c1_a0_1
  have ac1_a0_2 := fun o => keepa o c1_a0_2
  have rP0 := P0.out.below hb'; clear P0; have P0 := Lib.hid rP0; clear rP0
  have rP2 := P2.out.below hb'; clear P2; have P2 := Lib.hid rP2; clear rP2
  have rP3 := P3.out.below hb'; clear P3; have P3 := Lib.hid rP3; clear rP3
  have rP4 := P4.out.below hb'; clear P4; have P4 := Lib.hid rP4; clear rP4
  have rB := hb'; have B := Lib.hid rB; clear rB
  clear hb hb'
  by_cases hs1 : 1048576 < n0
  · rw [szOf_neg' (by omega)]
    go_wp2
    go_ret
    exact ⟨rfl, B.out⟩
  rw [szOf_pos' (by omega)]
  have hs1' : (0 : Int) ≤ 1048576 - (n0 : Nat) := by omega
  go_wp2_with fail
  refine (toMachine_c _ _ _ _ _ _ _ (by exact (P0.out.rd)) (by omega)).mono ?_
  rintro e w2 ⟨g011, rfl, q2, hb⟩
  have hb' : Below w1.heap.size w1 w2 := (by first | (with_reducible exact hb) | (with_reducible exact up1 hb) | (with_reducible exact up2 hb) | (with_reducible exact up3 hb) | (with_reducible exact up4 hb) | (with_reducible exact below_of_drew hb) | (with_reducible exact below_of_drew (up1 hb)))
  have z2 := hb'.size
  have c2_a0_0 : w2.cell? ⟨w.heap.size, 0, none⟩ = some (.int .i64 sy0) := keepc hb' c1_a0_0
  clear c1_a0_0 ac1_a0_0
  have c2_a0_1 : w2.cell? ⟨w.heap.size, 1, none⟩ = some (.int .i64 st0) := keepc hb' c1_a0_1
  clear c1_a0_1 ac1_a0_1
  have c2_a0_2 : w2.cell? ⟨w.heap.size, 2, none⟩ = some (.slice A0 n0 c0) := keepc hb' c1_a0_2
  clear c1_a0_2 ac1_a0_2
  have ac2_a0_0 := fun o => keepa o c2_a0_0
  have ac2_a0_1 := fun o => keepa o c2_a0_1
  have ac2_a0_2 := fun o => keepa o c2_a0_2
  have rP0 := P0.out.below hb'; clear P0; have P0 := Lib.hid rP0; clear rP0
  have rP2 := P2.out.below hb'; clear P2; have P2 := Lib.hid rP2; clear rP2
  have rP3 := P3.out.below hb'; clear P3; have P3 := Lib.hid rP3; clear rP3
  have rP4 := P4.out.below hb'; clear P4; have P4 := Lib.hid rP4; clear rP4
  have rB := below_chain B.out (by omega) hb'; clear B; have B := Lib.hid rB; clear rB
  have Fo12 := Lib.hid q2; clear q2
  clear hb hb'
  go_wp2_with fail
  refine (toInt64S_c _ _ _ _ _ (by exact (P2.out.1)) (by omega)).mono ?_
  rintro e w3 ⟨rfl, q3, hb⟩
  have hb' : Below w2.heap.size w2 w3 := (by first | (with_reducible exact hb) | (with_reducible exact up1 hb) | (with_reducible exact up2 hb) | (with_reducible exact up3 hb) | (with_reducible exact up4 hb) | (with_reducible exact below_of_drew hb) | (with_reducible exact below_of_drew (up1 hb)))
  have z3 := hb'.size
  have c3_a0_0 : w3.cell? ⟨w.heap.size, 0, none⟩ = some (.int .i64 sy0) := keepc hb' c2_a0_0
  clear c2_a0_0 ac2_a0_0
  have c3_a0_1 : w3.cell? ⟨w.heap.size, 1, none⟩ = some (.int .i64 st0) := keepc hb' c2_a0_1
  clear c2_a0_1 ac2_a0_1
  have c3_a0_2 : w3.cell? ⟨w.heap.size, 2, none⟩ = some (.slice A0 n0 c0) := keepc hb' c2_a0_2
  clear c2_a0_2 ac2_a0_2
  have ac3_a0_0 := fun o => keepa o c3_a0_0
  have ac3_a0_1 := fun o => keepa o c3_a0_1
  have ac3_a0_2 := fun o => keepa o c3_a0_2
  have rP0 := P0.out.below hb'; clear P0; have P0 := Lib.hid rP0; clear rP0
  have rP2 := P2.out.below hb'; clear P2; have P2 := Lib.hid rP2; clear rP2
  have rP3 := P3.out.below hb'; clear P3; have P3 := Lib.hid rP3; clear rP3
  have rP4 := P4.out.below hb'; clear P4; have P4 := Lib.hid rP4; clear rP4
  have rFo12 := Fo12.out.below hb'; clear Fo12; have Fo12 := Lib.hid rFo12; clear rFo12
  have rB := below_chain B.out (by omega) hb'; clear B; have B := Lib.hid rB; clear rB
  have Fo13 := Lib.hid q3; clear q3
  clear hb hb'
  go_wp2_with fail
  refine (toInt64S_c _ _ _ _ _ (by exact (P3.out.1)) (by omega)).mono ?_
  rintro e w4 ⟨rfl, q4, hb⟩
  have hb' : Below w3.heap.size w3 w4 := (by first | (with_reducible exact hb) | (with_reducible exact up1 hb) | (with_reducible exact up2 hb) | (with_reducible exact up3 hb) | (with_reducible exact up4 hb) | (with_reducible exact below_of_drew hb) | (with_reducible exact below_of_drew (up1 hb)))
  have z4 := hb'.size
  have c4_a0_0 : w4.cell? ⟨w.heap.size, 0, none⟩ = some (.int .i64 sy0) := keepc hb' c3_a0_0
  clear c3_a0_0 ac3_a0_0
  have c4_a0_1 : w4.cell? ⟨w.heap.size, 1, none⟩ = some (.int .i64 st0) := keepc hb' c3_a0_1
  clear c3_a0_1 ac3_a0_1
  have c4_a0_2 : w4.cell? ⟨w.heap.size, 2, none⟩ = some (.slice A0 n0 c0) := keepc hb' c3_a0_2
  clear c3_a0_2 ac3_a0_2
  have ac4_a0_0 := fun o => keepa o c4_a0_0
  have ac4_a0_1 := fun o => keepa o c4_a0_1
  have ac4_a0_2 := fun o => keepa o c4_a0_2
  have rP0 := P0.out.below hb'; clear P0; have P0 := Lib.hid rP0; clear rP0
  have rP2 := P2.out.below hb'; clear P2; have P2 := Lib.hid rP2; clear rP2
  have rP3 := P3.out.below hb'; clear P3; have P3 := Lib.hid rP3; clear rP3
  have rP4 := P4.out.below hb'; clear P4; have P4 := Lib.hid rP4; clear rP4
  have rFo12 := Fo12.out.below hb'; clear Fo12; have Fo12 := Lib.hid rFo12; clear rFo12
  have rFo13 := Fo13.out.below hb'; clear Fo13; have Fo13 := Lib.hid rFo13; clear rFo13
  have rB := below_chain B.out (by omega) hb'; clear B; have B := Lib.hid rB; clear rB
  have Fo14 := Lib.hid q4; clear q4
  clear hb hb'
  go_wp2_with fail
  refine (toInt64S_c _ _ _ _ _ (by exact (P4.out.1)) (by omega)).mono ?_
  rintro e w5 ⟨rfl, q5, hb⟩
  have hb' : Below w4.heap.size w4 w5 := (by first | (with_reducible exact hb) | (with_reducible exact up1 hb) | (with_reducible exact up2 hb) | (with_reducible exact up3 hb) | (with_reducible exact up4 hb) | (with_reducible exact below_of_drew hb) | (with_reducible exact below_of_drew (up1 hb)))
  have z5 := hb'.size
  have c5_a0_0 : w5.cell? ⟨w.heap.size, 0, none⟩ = some (.int .i64 sy0) := keepc hb' c4_a0_0
  clear c4_a0_0 ac4_a0_0
  have c5_a0_1 : w5.cell? ⟨w.heap.size, 1, none⟩ = some (.int .i64 st0) := keepc hb' c4_a0_1
  clear c4_a0_1 ac4_a0_1
  have c5_a0_2 : w5.cell? ⟨w.heap.size, 2, none⟩ = some (.slice A0 n0 c0) := keepc hb' c4_a0_2
  clear c4_a0_2 ac4_a0_2
  have ac5_a0_0 := fun o => keepa o c5_a0_0
  have ac5_a0_1 := fun o => keepa o c5_a0_1
  have ac5_a0_2 := fun o => keepa o c5_a0_2
  have rP0 := P0.out.below hb'; clear P0; have P0 := Lib.hid rP0; clear rP0
  have rP2 := P2.out.below hb'; clear P2; have P2 := Lib.hid rP2; clear rP2
  have rP3 := P3.out.below hb'; clear P3; have P3 := Lib.hid rP3; clear rP3
  have rP4 := P4.out.below hb'; clear P4; have P4 := Lib.hid rP4; clear rP4
  have rFo12 := Fo12.out.below hb'; clear Fo12; have Fo12 := Lib.hid rFo12; clear rFo12
  have rFo13 := Fo13.out.below hb'; clear Fo13; have Fo13 := Lib.hid rFo13; clear rFo13
  have rFo14 := Fo14.out.below hb'; clear Fo14; have Fo14 := Lib.hid rFo14; clear rFo14
  have rB := below_chain B.out (by omega) hb'; clear B; have B := Lib.hid rB; clear rB
  have Fo15 := Lib.hid q5; clear q5
  clear hb hb'
  go_wp2_with fail
  refine (sRepeatsIn_c _ _ _ _ _ _ _ _ _ _ _ _ _ _ _ _ _ _ (by exact (Fo12.out.rd)) (by exact (Fo13.out.rdI)) (by exact (Fo14.out.rdI)) (by exact (Fo15.out.rdI)) (by omega) (by omega) (by omega) (by omega)).mono ?_
  rintro e w6 ⟨A16, n17, c18, its19, B20, m21, d22, jts23, C24, k25, e26, rfl, q27, l28, hb⟩
  have hb' : Below w5.heap.size w5 w6 := (by first | (with_reducible exact hb) | (with_reducible exact up1 hb) | (with_reducible exact up2 hb) | (with_reducible exact up3 hb) | (with_reducible exact up4 hb) | (with_reducible exact below_of_drew hb) | (with_reducible exact below_of_drew (up1 hb)))
  have z6 := hb'.size
  have c6_a0_0 : w6.cell? ⟨w.heap.size, 0, none⟩ = some (.int .i64 sy0) := keepc hb' c5_a0_0
  clear c5_a0_0 ac5_a0_0
  have c6_a0_1 : w6.cell? ⟨w.heap.size, 1, none⟩ = some (.int .i64 st0) := keepc hb' c5_a0_1
  clear c5_a0_1 ac5_a0_1
  have c6_a0_2 : w6.cell? ⟨w.heap.size, 2, none⟩ = some (.slice A0 n0 c0) := keepc hb' c5_a0_2
  clear c5_a0_2 ac5_a0_2
  have ac6_a0_0 := fun o => keepa o c6_a0_0
  have ac6_a0_1 := fun o => keepa o c6_a0_1
  have ac6_a0_2 := fun o => keepa o c6_a0_2
  have rP0 := P0.out.below hb'; clear P0; have P0 := Lib.hid rP0; clear rP0
  have rP2 := P2.out.below hb'; clear P2; have P2 := Lib.hid rP2; clear rP2
  have rP3 := P3.out.below hb'; clear P3; have P3 := Lib.hid rP3; clear rP3
  have rP4 := P4.out.below hb'; clear P4; have P4 := Lib.hid rP4; clear rP4
  have rFo12 := Fo12.out.below hb'; clear Fo12; have Fo12 := Lib.hid rFo12; clear rFo12
  have rFo13 := Fo13.out.below hb'; clear Fo13; have Fo13 := Lib.hid rFo13; clear rFo13
  have rFo14 := Fo14.out.below hb'; clear Fo14; have Fo14 := Lib.hid rFo14; clear rFo14
  have rFo15 := Fo15.out.below hb'; clear Fo15; have Fo15 := Lib.hid rFo15; clear rFo15
  have rB := below_chain B.out (by omega) hb'; clear B; have B := Lib.hid rB; clear rB
  have Fo29 := Lib.hid q27; clear q27
  obtain ⟨ln_o29, ln_o29_1, ln_o29_2, bI0_o29, hs0_o29, bm0_o29, bI1_o29, hs1_o29, bm1_o29⟩ := l28
  have hI0_o29 := (fun t ht => Nat.le_trans (bI0_o29 t ht) (by omega) : ∀ t ∈ its19, t.n ≤ 1000000000); have hm0_o29 := Lib.hid bm0_o29; clear bI0_o29 bm0_o29
  have hI1_o29 := (fun t ht => Nat.le_trans (bI1_o29 t ht) (by omega) : ∀ t ∈ jts23, t.n ≤ 1000000000); have hm1_o29 := Lib.hid bm1_o29; clear bI1_o29 bm1_o29
  clear hb hb'
  go_wp2_with fail
  refine (toMachine_c _ _ _ _ _ _ _ (by exact ((P0.out.rd).alloc _)) (by omega)).mono ?_
  rintro e w7 ⟨g030, rfl, q7, hb⟩
  try simp only [World.size_alloc] at q7
  have hb' : Below w6.heap.size w6 w7 := (by first | (with_reducible exact hb) | (with_reducible exact up1 hb) | (with_reducible exact up2 hb) | (with_reducible exact up3 hb) | (with_reducible exact up4 hb) | (with_reducible exact below_of_drew hb) | (with_reducible exact below_of_drew (up1 hb)))
  have z7 := hb'.size
  have c7_a0_0 : w7.cell? ⟨w.heap.size, 0, none⟩ = some (.int .i64 sy0) := keepc hb' c6_a0_0
  clear c6_a0_0 ac6_a0_0
  have c7_a0_1 : w7.cell? ⟨w.heap.size, 1, none⟩ = some (.int .i64 st0) := keepc hb' c6_a0_1
  clear c6_a0_1 ac6_a0_1
  have c7_a0_2 : w7.cell? ⟨w.heap.size, 2, none⟩ = some (.slice A0 n0 c0) := keepc hb' c6_a0_2
  clear c6_a0_2 ac6_a0_2
  have c7_o29_0 : w7.cell? ⟨w6.heap.size, 0, none⟩ = some (.int .i64 (rpR sy0 st0 xs0 x1 xs2 xs3 xs4).1.1) := keepc hb (by first | (simp; done) | (rw [World.cell?_alloc_past _ _ _ (by simp <;> omega)]; simp; done) | (rw [World.cell?_alloc_past _ _ _ (by simp <;> omega), World.cell?_alloc_past _ _ _ (by simp <;> omega)]; simp; done) | (rw [World.cell?_alloc_past _ _ _ (by simp <;> omega), World.cell?_alloc_past _ _ _ (by simp <;> omega), World.cell?_alloc_past _ _ _ (by simp <;> omega)]; simp; done) | (rw [World.cell?_alloc_at _ _ _ _ (by simp)]; simp; done) | (rw [World.cell?_alloc_past _ _ _ (by simp <;> omega), World.cell?_alloc_at _ _ _ _ (by simp)]; simp; done) | (rw [World.cell?_alloc_past _ _ _ (by simp <;> omega), World.cell?_alloc_past _ _ _ (by simp <;> omega), World.cell?_alloc_at _ _ _ _ (by simp)]; simp; done) | (rw [World.cell?_alloc_past _ _ _ (by simp <;> omega), World.cell?_alloc_past _ _ _ (by simp <;> omega), World.cell?_alloc_past _ _ _ (by simp <;> omega), World.cell?_alloc_at _ _ _ _ (by simp)]; simp; done))
  have hl_c7_o29_0 : w6.heap.size < w7.heap.size := World.block_lt_of_cell? w7 _ c7_o29_0
  have c7_o29_1 : w7.cell? ⟨w6.heap.size, 1, none⟩ = some (.int .i64 (rpR sy0 st0 xs0 x1 xs2 xs3 xs4).1.2.1) := keepc hb (by first | (simp; done) | (rw [World.cell?_alloc_past _ _ _ (by simp <;> omega)]; simp; done) | (rw [World.cell?_alloc_past _ _ _ (by simp <;> omega), World.cell?_alloc_past _ _ _ (by simp <;> omega)]; simp; done) | (rw [World.cell?_alloc_past _ _ _ (by simp <;> omega), World.cell?_alloc_past _ _ _ (by simp <;> omega), World.cell?_alloc_past _ _ _ (by simp <;> omega)]; simp; done) | (rw [World.cell?_alloc_at _ _ _ _ (by simp)]; simp; done) | (rw [World.cell?_alloc_past _ _ _ (by simp <;> omega), World.cell?_alloc_at _ _ _ _ (by simp)]; simp; done) | (rw [World.cell?_alloc_past _ _ _ (by simp <;> omega), World.cell?_alloc_past _ _ _ (by simp <;> omega), World.cell?_alloc_at _ _ _ _ (by simp)]; simp; done) | (rw [World.cell?_alloc_past _ _ _ (by simp <;> omega), World.cell?_alloc_past _ _ _ (by simp <;> omega), World.cell?_alloc_past _ _ _ (by simp <;> omega), World.cell?_alloc_at _ _ _ _ (by simp)]; simp; done))
  have c7_o29_2 : w7.cell? ⟨w6.heap.size, 2, none⟩ = some (.int .i64 (rpR sy0 st0 xs0 x1 xs2 xs3 xs4).1.2.2.1) := keepc hb (by first | (simp; done) | (rw [World.cell?_alloc_past _ _ _ (by simp <;> omega)]; simp; done) | (rw [World.cell?_alloc_past _ _ _ (by simp <;> omega), World.cell?_alloc_past _ _ _ (by simp <;> omega)]; simp; done) | (rw [World.cell?_alloc_past _ _ _ (by simp <;> omega), World.cell?_alloc_past _ _ _ (by simp <;> omega), World.cell?_alloc_past _ _ _ (by simp <;> omega)]; simp; done) | (rw [World.cell?_alloc_at _ _ _ _ (by simp)]; simp; done) | (rw [World.cell?_alloc_past _ _ _ (by simp <;> omega), World.cell?_alloc_at _ _ _ _ (by simp)]; simp; done) | (rw [World.cell?_alloc_past _ _ _ (by simp <;> omega), World.cell?_alloc_past _ _ _ (by simp <;> omega), World.cell?_alloc_at _ _ _ _ (by simp)]; simp; done) | (rw [World.cell?_alloc_past _ _ _ (by simp <;> omega), World.cell?_alloc_past _ _ _ (by simp <;> omega), World.cell?_alloc_past _ _ _ (by simp <;> omega), World.cell?_alloc_at _ _ _ _ (by simp)]; simp; done))
  have c7_o29_3 : w7.cell? ⟨w6.heap.size, 3, none⟩ = some (.slice A16 n17 c18) := keepc hb (by first | (simp; done) | (rw [World.cell?_alloc_past _ _ _ (by simp <;> omega)]; simp; done) | (rw [World.cell?_alloc_past _ _ _ (by simp <;> omega), World.cell?_alloc_past _ _ _ (by simp <;> omega)]; simp; done) | (rw [World.cell?_alloc_past _ _ _ (by simp <;> omega), World.cell?_alloc_past _ _ _ (by simp <;> omega), World.cell?_alloc_past _ _ _ (by simp <;> omega)]; simp; done) | (rw [World.cell?_alloc_at _ _ _ _ (by simp)]; simp; done) | (rw [World.cell?_alloc_past _ _ _ (by simp <;> omega), World.cell?_alloc_at _ _ _ _ (by simp)]; simp; done) | (rw [World.cell?_alloc_past _ _ _ (by simp <;> omega), World.cell?_alloc_past _ _ _ (by simp <;> omega), World.cell?_alloc_at _ _ _ _ (by simp)]; simp; done) | (rw [World.cell?_alloc_past _ _ _ (by simp <;> omega), World.cell?_alloc_past _ _ _ (by simp <;> omega), World.cell?_alloc_past _ _ _ (by simp <;> omega), World.cell?_alloc_at _ _ _ _ (by simp)]; simp; done))
  have c7_o29_4 : w7.cell? ⟨w6.heap.size, 4, none⟩ = some (.slice B20 m21 d22) := keepc hb (by first | (simp; done) | (rw [World.cell?_alloc_past _ _ _ (by simp <;> omega)]; simp; done) | (rw [World.cell?_alloc_past _ _ _ (by simp <;> omega), World.cell?_alloc_past _ _ _ (by simp <;> omega)]; simp; done) | (rw [World.cell?_alloc_past _ _ _ (by simp <;> omega), World.cell?_alloc_past _ _ _ (by simp <;> omega), World.cell?_alloc_past _ _ _ (by simp <;> omega)]; simp; done) | (rw [World.cell?_alloc_at _ _ _ _ (by simp)]; simp; done) | (rw [World.cell?_alloc_past _ _ _ (by simp <;> omega), World.cell?_alloc_at _ _ _ _ (by simp)]; simp; done) | (rw [World.cell?_alloc_past _ _ _ (by simp <;> omega), World.cell?_alloc_past _ _ _ (by simp <;> omega), World.cell?_alloc_at _ _ _ _ (by simp)]; simp; done) | (rw [World.cell?_alloc_past _ _ _ (by simp <;> omega), World.cell?_alloc_past _ _ _ (by simp <;> omega), World.cell?_alloc_past _ _ _ (by simp <;> omega), World.cell?_alloc_at _ _ _ _ (by simp)]; simp; done))
  have c7_o29_5 : w7.cell? ⟨w6.heap.size, 5, none⟩ = some (.slice C24 k25 e26) := keepc hb (by first | (simp; done) | (rw [World.cell?_alloc_past _ _ _ (by simp <;> omega)]; simp; done) | (rw [World.cell?_alloc_past _ _ _ (by simp <;> omega), World.cell?_alloc_past _ _ _ (by simp <;> omega)]; simp; done) | (rw [World.cell?_alloc_past _ _ _ (by simp <;> omega), World.cell?_alloc_past _ _ _ (by simp <;> omega), World.cell?_alloc_past _ _ _ (by simp <;> omega)]; simp; done) | (rw [World.cell?_alloc_at _ _ _ _ (by simp)]; simp; done) | (rw [World.cell?_alloc_past _ _ _ (by simp <;> omega), World.cell?_alloc_at _ _ _ _ (by simp)]; simp; done) | (rw [World.cell?_alloc_past _ _ _ (by simp <;> omega), World.cell?_alloc_past _ _ _ (by simp <;> omega), World.cell?_alloc_at _ _ _ _ (by simp)]; simp; done) | (rw [World.cell?_alloc_past _ _ _ (by simp <;> omega), World.cell?_alloc_past _ _ _ (by simp <;> omega), World.cell?_alloc_past _ _ _ (by simp <;> omega), World.cell?_alloc_at _ _ _ _ (by simp)]; simp; done))
  have ac7_a0_0 := fun o => keepa o c7_a0_0
  have ac7_a0_1 := fun o => keepa o c7_a0_1
  have ac7_a0_2 := fun o => keepa o c7_a0_2
  have ac7_o29_0 := fun o => keepa o c7_o29_0
  have ac7_o29_1 := fun o => keepa o c7_o29_1
  have ac7_o29_2 := fun o => keepa o c7_o29_2
  have ac7_o29_3 := fun o => keepa o c7_o29_3
  have ac7_o29_4 := fun o => keepa o c7_o29_4
  have ac7_o29_5 := fun o => keepa o c7_o29_5
  have rP0 := P0.out.below hb'; clear P0; have P0 := Lib.hid rP0; clear rP0
  have rP2 := P2.out.below hb'; clear P2; have P2 := Lib.hid rP2; clear rP2
  have rP3 := P3.out.below hb'; clear P3; have P3 := Lib.hid rP3; clear rP3
  have rP4 := P4.out.below hb'; clear P4; have P4 := Lib.hid rP4; clear rP4
  have rFo12 := Fo12.out.below hb'; clear Fo12; have Fo12 := Lib.hid rFo12; clear rFo12
  have rFo13 := Fo13.out.below hb'; clear Fo13; have Fo13 := Lib.hid rFo13; clear rFo13
  have rFo14 := Fo14.out.below hb'; clear Fo14; have Fo14 := Lib.hid rFo14; clear rFo14
  have rFo15 := Fo15.out.below hb'; clear Fo15; have Fo15 := Lib.hid rFo15; clear rFo15
  have rFo29 := Fo29.out.below hb'; clear Fo29; have Fo29 := Lib.hid rFo29; clear rFo29
  have rB := below_chain B.out (by omega) hb'; clear B; have B := Lib.hid rB; clear rB
  have Fo31 := Lib.hid q7; clear q7
  clear hb hb'
  go_wp2_with fail
  refine (toInt64S_c _ _ _ _ _ (by exact ((P2.out.1).alloc _)) (by omega)).mono ?_
  rintro e w8 ⟨rfl, q8, hb⟩
  try simp only [World.size_alloc] at q8
  have hb' : Below w7.heap.size w7 w8 := (by first | (with_reducible exact hb) | (with_reducible exact up1 hb) | (with_reducible exact up2 hb) | (with_reducible exact up3 hb) | (with_reducible exact up4 hb) | (with_reducible exact below_of_drew hb) | (with_reducible exact below_of_drew (up1 hb)))
  have z8 := hb'.size
  have c8_a0_0 : w8.cell? ⟨w.heap.size, 0, none⟩ = some (.int .i64 sy0) := keepc hb' c7_a0_0
  clear c7_a0_0 ac7_a0_0
  have c8_a0_1 : w8.cell? ⟨w.heap.size, 1, none⟩ = some (.int .i64 st0) := keepc hb' c7_a0_1
  clear c7_a0_1 ac7_a0_1
  have c8_a0_2 : w8.cell? ⟨w.heap.size, 2, none⟩ = some (.slice A0 n0 c0) := keepc hb' c7_a0_2
  clear c7_a0_2 ac7_a0_2
  have c8_o29_0 : w8.cell? ⟨w6.heap.size, 0, none⟩ = some (.int .i64 (rpR sy0 st0 xs0 x1 xs2 xs3 xs4).1.1) := keepc hb' c7_o29_0
  clear c7_o29_0 ac7_o29_0
  have c8_o29_1 : w8.cell? ⟨w6.heap.size, 1, none⟩ = some (.int .i64 (rpR sy0 st0 xs0 x1 xs2 xs3 xs4).1.2.1) := keepc hb' c7_o29_1
  clear c7_o29_1 ac7_o29_1
  have c8_o29_2 : w8.cell? ⟨w6.heap.size, 2, none⟩ = some (.int .i64 (rpR sy0 st0 xs0 x1 xs2 xs3 xs4).1.2.2.1) := keepc hb' c7_o29_2
  clear c7_o29_2 ac7_o29_2
  have c8_o29_3 : w8.cell? ⟨w6.heap.size, 3, none⟩ = some (.slice A16 n17 c18) := keepc hb' c7_o29_3
  clear c7_o29_3 ac7_o29_3
  have c8_o29_4 : w8.cell? ⟨w6.heap.size, 4, none⟩ = some (.slice B20 m21 d22) := keepc hb' c7_o29_4
  clear c7_o29_4 ac7_o29_4
  have c8_o29_5 : w8.cell? ⟨w6.heap.size, 5, none⟩ = some (.slice C24 k25 e26) := keepc hb' c7_o29_5
  clear c7_o29_5 ac7_o29_5
  have c8_o31_0 : w8.cell? ⟨w7.heap.size, 0, none⟩ = some (.int .i64 sy0) := keepc hb (by first | (simp; done) | (rw [World.cell?_alloc_past _ _ _ (by simp <;> omega)]; simp; done) | (rw [World.cell?_alloc_past _ _ _ (by simp <;> omega), World.cell?_alloc_past _ _ _ (by simp <;> omega)]; simp; done) | (rw [World.cell?_alloc_past _ _ _ (by simp <;> omega), World.cell?_alloc_past _ _ _ (by simp <;> omega), World.cell?_alloc_past _ _ _ (by simp <;> omega)]; simp; done) | (rw [World.cell?_alloc_at _ _ _ _ (by simp)]; simp; done) | (rw [World.cell?_alloc_past _ _ _ (by simp <;> omega), World.cell?_alloc_at _ _ _ _ (by simp)]; simp; done) | (rw [World.cell?_alloc_past _ _ _ (by simp <;> omega), World.cell?_alloc_past _ _ _ (by simp <;> omega), World.cell?_alloc_at _ _ _ _ (by simp)]; simp; done) | (rw [World.cell?_alloc_past _ _ _ (by simp <;> omega), World.cell?_alloc_past _ _ _ (by simp <;> omega), World.cell?_alloc_past _ _ _ (by simp <;> omega), World.cell?_alloc_at _ _ _ _ (by simp)]; simp; done))
  have hl_c8_o31_0 : w7.heap.size < w8.heap.size := World.block_lt_of_cell? w8 _ c8_o31_0
  have c8_o31_1 : w8.cell? ⟨w7.heap.size, 1, none⟩ = some (.int .i64 st0) := keepc hb (by first | (simp; done) | (rw [World.cell?_alloc_past _ _ _ (by simp <;> omega)]; simp; done) | (rw [World.cell?_alloc_past _ _ _ (by simp <;> omega), World.cell?_alloc_past _ _ _ (by simp <;> omega)]; simp; done) | (rw [World.cell?_alloc_past _ _ _ (by simp <;> omega), World.cell?_alloc_past _ _ _ (by simp <;> omega), World.cell?_alloc_past _ _ _ (by simp <;> omega)]; simp; done) | (rw [World.cell?_alloc_at _ _ _ _ (by simp)]; simp; done) | (rw [World.cell?_alloc_past _ _ _ (by simp <;> omega), World.cell?_alloc_at _ _ _ _ (by simp)]; simp; done) | (rw [World.cell?_alloc_past _ _ _ (by simp <;> omega), World.cell?_alloc_past _ _ _ (by simp <;> omega), World.cell?_alloc_at _ _ _ _ (by simp)]; simp; done) | (rw [World.cell?_alloc_past _ _ _ (by simp <;> omega), World.cell?_alloc_past _ _ _ (by simp <;> omega), World.cell?_alloc_past _ _ _ (by simp <;> omega), World.cell?_alloc_at _ _ _ _ (by simp)]; simp; done))
  have c8_o31_2 : w8.cell? ⟨w7.heap.size, 2, none⟩ = some (.slice (some ⟨g030, 0, none⟩) n0 n0) := keepc hb (by first | (simp; done) | (rw [World.cell?_alloc_past _ _ _ (by simp <;> omega)]; simp; done) | (rw [World.cell?_alloc_past _ _ _ (by simp <;> omega), World.cell?_alloc_past _ _ _ (by simp <;> omega)]; simp; done) | (rw [World.cell?_alloc_past _ _ _ (by simp <;> omega), World.cell?_alloc_past _ _ _ (by simp <;> omega), World.cell?_alloc_past _ _ _ (by simp <;> omega)]; simp; done) | (rw [World.cell?_alloc_at _ _ _ _ (by simp)]; simp; done) | (rw [World.cell?_alloc_past _ _ _ (by simp <;> omega), World.cell?_alloc_at _ _ _ _ (by simp)]; simp; done) | (rw [World.cell?_alloc_past _ _ _ (by simp <;> omega), World.cell?_alloc_past _ _ _ (by simp <;> omega), World.cell?_alloc_at _ _ _ _ (by simp)]; simp; done) | (rw [World.cell?_alloc_past _ _ _ (by simp <;> omega), World.cell?_alloc_past _ _ _ (by simp <;> omega), World.cell?_alloc_past _ _ _ (by simp <;> omega), World.cell?_alloc_at _ _ _ _ (by simp)]; simp; done))
  have ac8_a0_0 := fun o => keepa o c8_a0_0
  have ac8_a0_1 := fun o => keepa o c8_a0_1
  have ac8_a0_2 := fun o => keepa o c8_a0_2
  have ac8_o29_0 := fun o => keepa o c8_o29_0
  have ac8_o29_1 := fun o => keepa o c8_o29_1
  have ac8_o29_2 := fun o => keepa o c8_o29_2
  have ac8_o29_3 := fun o => keepa o c8_o29_3
  have ac8_o29_4 := fun o => keepa o c8_o29_4
  have ac8_o29_5 := fun o => keepa o c8_o29_5
  have ac8_o31_0 := fun o => keepa o c8_o31_0
  have ac8_o31_1 := fun o => keepa o c8_o31_1
  have ac8_o31_2 := fun o => keepa o c8_o31_2
  have rP0 := P0.out.below hb'; clear P0; have P0 := Lib.hid rP0; clear rP0
  have rP2 := P2.out.below hb'; clear P2; have P2 := Lib.hid rP2; clear rP2
  have rP3 := P3.out.below hb'; clear P3; have P3 := Lib.hid rP3; clear rP3
  have rP4 := P4.out.below hb'; clear P4; have P4 := Lib.hid rP4; clear rP4
  have rFo12 := Fo12.out.below hb'; clear Fo12; have Fo12 := Lib.hid rFo12; clear rFo12
  have rFo13 := Fo13.out.below hb'; clear Fo13; have Fo13 := Lib.hid rFo13; clear rFo13
  have rFo14 := Fo14.out.below hb'; clear Fo14; have Fo14 := Lib.hid rFo14; clear rFo14
  have rFo15 := Fo15.out.below hb'; clear Fo15; have Fo15 := Lib.hid rFo15; clear rFo15
  have rFo29 := Fo29.out.below hb'; clear Fo29; have Fo29 := Lib.hid rFo29; clear rFo29
  have rFo31 := Fo31.out.below hb'; clear Fo31; have Fo31 := Lib.hid rFo31; clear rFo31
  have rB := below_chain B.out (by omega) hb'; clear B; have B := Lib.hid rB; clear rB
  have Fo32 := Lib.hid q8; clear q8
  clear hb hb'
  go_wp2_with fail
  refine (toInt64S_c _ _ _ _ _ (by exact (P3.out.1)) (by omega)).mono ?_
  rintro e w9 ⟨rfl, q9, hb⟩
  have hb' : Below w8.heap.size w8 w9 := (by first | (with_reducible exact hb) | (with_reducible exact up1 hb) | (with_reducible exact up2 hb) | (with_reducible exact up3 hb) | (with_reducible exact up4 hb) | (with_reducible exact below_of_drew hb) | (with_reducible exact below_of_drew (up1 hb)))
  have z9 := hb'.size
  have c9_a0_0 : w9.cell? ⟨w.heap.size, 0, none⟩ = some (.int .i64 sy0) := keepc hb' c8_a0_0
  clear c8_a0_0 ac8_a0_0
  have c9_a0_1 : w9.cell? ⟨w.heap.size, 1, none⟩ = some (.int .i64 st0) := keepc hb' c8_a0_1
  clear c8_a0_1 ac8_a0_1
  have c9_a0_2 : w9.cell? ⟨w.heap.size, 2, none⟩ = some (.slice A0 n0 c0) := keepc hb' c8_a0_2
  clear c8_a0_2 ac8_a0_2
  have c9_o29_0 : w9.cell? ⟨w6.heap.size, 0, none⟩ = some (.int .i64 (rpR sy0 st0 xs0 x1 xs2 xs3 xs4).1.1) := keepc hb' c8_o29_0
  clear c8_o29_0 ac8_o29_0
  have c9_o29_1 : w9.cell? ⟨w6.heap.size, 1, none⟩ = some (.int .i64 (rpR sy0 st0 xs0 x1 xs2 xs3 xs4).1.2.1) := keepc hb' c8_o29_1
  clear c8_o29_1 ac8_o29_1
  have c9_o29_2 : w9.cell? ⟨w6.heap.size, 2, none⟩ = some (.int .i64 (rpR sy0 st0 xs0 x1 xs2 xs3 xs4).1.2.2.1) := keepc hb' c8_o29_2
  clear c8_o29_2 ac8_o29_2
  have c9_o29_3 : w9.cell? ⟨w6.heap.size, 3, none⟩ = some (.slice A16 n17 c18) := keepc hb' c8_o29_3
  clear c8_o29_3 ac8_o29_3
  have c9_o29_4 : w9.cell? ⟨w6.heap.size, 4, none⟩ = some (.slice B20 m21 d22) := keepc hb' c8_o29_4
  clear c8_o29_4 ac8_o29_4
  have c9_o29_5 : w9.cell? ⟨w6.heap.size, 5, none⟩ = some (.slice C24 k25 e26) := keepc hb' c8_o29_5
  clear c8_o29_5 ac8_o29_5
  have c9_o31_0 : w9.cell? ⟨w7.heap.size, 0, none⟩ = some (.int .i64 sy0) := keepc hb' c8_o31_0
  clear c8_o31_0 ac8_o31_0
  have c9_o31_1 : w9.cell? ⟨w7.heap.size, 1, none⟩ = some (.int .i64 st0) := keepc hb' c8_o31_1
  clear c8_o31_1 ac8_o31_1
  have c9_o31_2 : w9.cell? ⟨w7.heap.size, 2, none⟩ = some (.slice (some ⟨g030, 0, none⟩) n0 n0) := keepc hb' c8_o31_2
  clear c8_o31_2 ac8_o31_2
  have ac9_a0_0 := fun o => keepa o c9_a0_0
  have ac9_a0_1 := fun o => keepa o c9_a0_1
  have ac9_a0_2 := fun o => keepa o c9_a0_2
  have ac9_o29_0 := fun o => keepa o c9_o29_0
  have ac9_o29_1 := fun o => keepa o c9_o29_1
  have ac9_o29_2 := fun o => keepa o c9_o29_2
  have ac9_o29_3 := fun o => keepa o c9_o29_3
  have ac9_o29_4 := fun o => keepa o c9_o29_4
  have ac9_o29_5 := fun o => keepa o c9_o29_5
  have ac9_o31_0 := fun o => keepa o c9_o31_0
  have ac9_o31_1 := fun o => keepa o c9_o31_1
  have ac9_o31_2 := fun o => keepa o c9_o31_2
  have rP0 := P0.out.below hb'; clear P0; have P0 := Lib.hid rP0; clear rP0
  have rP2 := P2.out.below hb'; clear P2; have P2 := Lib.hid rP2; clear rP2
  have rP3 := P3.out.below hb'; clear P3; have P3 := Lib.hid rP3; clear rP3
  have rP4 := P4.out.below hb'; clear P4; have P4 := Lib.hid rP4; clear rP4
  have rFo12 := Fo12.out.below hb'; clear Fo12; have Fo12 := Lib.hid rFo12; clear rFo12
  have rFo13 := Fo13.out.below hb'; clear Fo13; have Fo13 := Lib.hid rFo13; clear rFo13
  have rFo14 := Fo14.out.below hb'; clear Fo14; have Fo14 := Lib.hid rFo14; clear rFo14
  have rFo15 := Fo15.out.below hb'; clear Fo15; have Fo15 := Lib.hid rFo15; clear rFo15
  have rFo29 := Fo29.out.below hb'; clear Fo29; have Fo29 := Lib.hid rFo29; clear rFo29
  have rFo31 := Fo31.out.below hb'; clear Fo31; have Fo31 := Lib.hid rFo31; clear rFo31
  have rFo32 := Fo32.out.below hb'; clear Fo32; have Fo32 := Lib.hid rFo32; clear rFo32
  have rB := below_chain B.out (by omega) hb'; clear B; have B := Lib.hid rB; clear rB
  have Fo33 := Lib.hid q9; clear q9
  clear hb hb'
  go_wp2_with fail
  refine (toInt64S_c _ _ _ _ _ (by exact (P4.out.1)) (by omega)).mono ?_
  rintro e w10 ⟨rfl, q10, hb⟩
  have hb' : Below w9.heap.size w9 w10 := (by first | (with_reducible exact hb) | (with_reducible exact up1 hb) | (with_reducible exact up2 hb) | (with_reducible exact up3 hb) | (with_reducible exact up4 hb) | (with_reducible exact below_of_drew hb) | (with_reducible exact below_of_drew (up1 hb)))
  have z10 := hb'.size
  have c10_a0_0 : w10.cell? ⟨w.heap.size, 0, none⟩ = some (.int .i64 sy0) := keepc hb' c9_a0_0
  clear c9_a0_0 ac9_a0_0
  have c10_a0_1 : w10.cell? ⟨w.heap.size, 1, none⟩ = some (.int .i64 st0) := keepc hb' c9_a0_1
  clear c9_a0_1 ac9_a0_1
  have c10_a0_2 : w10.cell? ⟨w.heap.size, 2, none⟩ = some (.slice A0 n0 c0) := keepc hb' c9_a0_2
  clear c9_a0_2 ac9_a0_2
  have c10_o29_0 : w10.cell? ⟨w6.heap.size, 0, none⟩ = some (.int .i64 (rpR sy0 st0 xs0 x1 xs2 xs3 xs4).1.1) := keepc hb' c9_o29_0
  clear c9_o29_0 ac9_o29_0
  have c10_o29_1 : w10.cell? ⟨w6.heap.size, 1, none⟩ = some (.int .i64 (rpR sy0 st0 xs0 x1 xs2 xs3 xs4).1.2.1) := keepc hb' c9_o29_1
  clear c9_o29_1 ac9_o29_1
  have c10_o29_2 : w10.cell? ⟨w6.heap.size, 2, none⟩ = some (.int .i64 (rpR sy0 st0 xs0 x1 xs2 xs3 xs4).1.2.2.1) := keepc hb' c9_o29_2
  clear c9_o29_2 ac9_o29_2
  have c10_o29_3 : w10.cell? ⟨w6.heap.size, 3, none⟩ = some (.slice A16 n17 c18) := keepc hb' c9_o29_3
  clear c9_o29_3 ac9_o29_3
  have c10_o29_4 : w10.cell? ⟨w6.heap.size, 4, none⟩ = some (.slice B20 m21 d22) := keepc hb' c9_o29_4
  clear c9_o29_4 ac9_o29_4
  have c10_o29_5 : w10.cell? ⟨w6.heap.size, 5, none⟩ = some (.slice C24 k25 e26) := keepc hb' c9_o29_5
  clear c9_o29_5 ac9_o29_5
  have c10_o31_0 : w10.cell? ⟨w7.heap.size, 0, none⟩ = some (.int .i64 sy0) := keepc hb' c9_o31_0
  clear c9_o31_0 ac9_o31_0
  have c10_o31_1 : w10.cell? ⟨w7.heap.size, 1, none⟩ = some (.int .i64 st0) := keepc hb' c9_o31_1
  clear c9_o31_1 ac9_o31_1
  have c10_o31_2 : w10.cell? ⟨w7.heap.size, 2, none⟩ = some (.slice (some ⟨g030, 0, none⟩) n0 n0) := keepc hb' c9_o31_2
  clear c9_o31_2 ac9_o31_2
  have ac10_a0_0 := fun o => keepa o c10_a0_0
  have ac10_a0_1 := fun o => keepa o c10_a0_1
  have ac10_a0_2 := fun o => keepa o c10_a0_2
  have ac10_o29_0 := fun o => keepa o c10_o29_0
  have ac10_o29_1 := fun o => keepa o c10_o29_1
  have ac10_o29_2 := fun o => keepa o c10_o29_2
  have ac10_o29_3 := fun o => keepa o c10_o29_3
  have ac10_o29_4 := fun o => keepa o c10_o29_4
  have ac10_o29_5 := fun o => keepa o c10_o29_5
  have ac10_o31_0 := fun o => keepa o c10_o31_0
  have ac10_o31_1 := fun o => keepa o c10_o31_1
  have ac10_o31_2 := fun o => keepa o c10_o31_2
  have rP0 := P0.out.below hb'; clear P0; have P0 := Lib.hid rP0; clear rP0
  have rP2 := P2.out.below hb'; clear P2; have P2 := Lib.hid rP2; clear rP2
  have rP3 := P3.out.below hb'; clear P3; have P3 := Lib.hid rP3; clear rP3
  have rP4 := P4.out.below hb'; clear P4; have P4 := Lib.hid rP4; clear rP4
  have rFo12 := Fo12.out.below hb'; clear Fo12; have Fo12 := Lib.hid rFo12; clear rFo12
  have rFo13 := Fo13.out.below hb'; clear Fo13; have Fo13 := Lib.hid rFo13; clear rFo13
  have rFo14 := Fo14.out.below hb'; clear Fo14; have Fo14 := Lib.hid rFo14; clear rFo14
  have rFo15 := Fo15.out.below hb'; clear Fo15; have Fo15 := Lib.hid rFo15; clear rFo15
  have rFo29 := Fo29.out.below hb'; clear Fo29; have Fo29 := Lib.hid rFo29; clear rFo29
  have rFo31 := Fo31.out.below hb'; clear Fo31; have Fo31 := Lib.hid rFo31; clear rFo31
  have rFo32 := Fo32.out.below hb'; clear Fo32; have Fo32 := Lib.hid rFo32; clear rFo32
  have rFo33 := Fo33.out.below hb'; clear Fo33; have Fo33 := Lib.hid rFo33; clear rFo33
  have rB := below_chain B.out (by omega) hb'; clear B; have B := Lib.hid rB; clear rB
  have Fo34 := Lib.hid q10; clear q10
  clear hb hb'
  go_wp2_with fail
  refine (iRepeatsIn_c _ _ _ _ _ _ _ _ _ _ _ _ _ _ _ _ _ _ (by exact (Fo31.out.rd)) (by exact (Fo32.out.rdI)) (by exact (Fo33.out.rdI)) (by exact (Fo34.out.rdI)) (by omega) (by omega) (by omega) (by omega)).mono ?_
  rintro e w11 ⟨A35, n36, c37, its38, B39, m40, d41, jts42, C43, k44, e45, rfl, q46, l47, hb⟩
  have hb' : Below w10.heap.size w10 w11 := (by first | (with_reducible exact hb) | (with_reducible exact up1 hb) | (with_reducible exact up2 hb) | (with_reducible exact up3 hb) | (with_reducible exact up4 hb) | (with_reducible exact below_of_drew hb) | (with_reducible exact below_of_drew (up1 hb)))
  have z11 := hb'.size
  have c11_a0_0 : w11.cell? ⟨w.heap.size, 0, none⟩ = some (.int .i64 sy0) := keepc hb' c10_a0_0
  clear c10_a0_0 ac10_a0_0
  have c11_a0_1 : w11.cell? ⟨w.heap.size, 1, none⟩ = some (.int .i64 st0) := keepc hb' c10_a0_1
  clear c10_a0_1 ac10_a0_1
  have c11_a0_2 : w11.cell? ⟨w.heap.size, 2, none⟩ = some (.slice A0 n0 c0) := keepc hb' c10_a0_2
  clear c10_a0_2 ac10_a0_2
  have c11_o29_0 : w11.cell? ⟨w6.heap.size, 0, none⟩ = some (.int .i64 (rpR sy0 st0 xs0 x1 xs2 xs3 xs4).1.1) := keepc hb' c10_o29_0
  clear c10_o29_0 ac10_o29_0
  have c11_o29_1 : w11.cell? ⟨w6.heap.size, 1, none⟩ = some (.int .i64 (rpR sy0 st0 xs0 x1 xs2 xs3 xs4).1.2.1) := keepc hb' c10_o29_1
  clear c10_o29_1 ac10_o29_1
  have c11_o29_2 : w11.cell? ⟨w6.heap.size, 2, none⟩ = some (.int .i64 (rpR sy0 st0 xs0 x1 xs2 xs3 xs4).1.2.2.1) := keepc hb' c10_o29_2
  clear c10_o29_2 ac10_o29_2
  have c11_o29_3 : w11.cell? ⟨w6.heap.size, 3, none⟩ = some (.slice A16 n17 c18) := keepc hb' c10_o29_3
  clear c10_o29_3 ac10_o29_3
  have c11_o29_4 : w11.cell? ⟨w6.heap.size, 4, none⟩ = some (.slice B20 m21 d22) := keepc hb' c10_o29_4
  clear c10_o29_4 ac10_o29_4
  have c11_o29_5 : w11.cell? ⟨w6.heap.size, 5, none⟩ = some (.slice C24 k25 e26) := keepc hb' c10_o29_5
  clear c10_o29_5 ac10_o29_5
  have c11_o31_0 : w11.cell? ⟨w7.heap.size, 0, none⟩ = some (.int .i64 sy0) := keepc hb' c10_o31_0
  clear c10_o31_0 ac10_o31_0
  have c11_o31_1 : w11.cell? ⟨w7.heap.size, 1, none⟩ = some (.int .i64 st0) := keepc hb' c10_o31_1
  clear c10_o31_1 ac10_o31_1
  have c11_o31_2 : w11.cell? ⟨w7.heap.size, 2, none⟩ = some (.slice (some ⟨g030, 0, none⟩) n0 n0) := keepc hb' c10_o31_2
  clear c10_o31_2 ac10_o31_2
  have ac11_a0_0 := fun o => keepa o c11_a0_0
  have ac11_a0_1 := fun o => keepa o c11_a0_1
  have ac11_a0_2 := fun o => keepa o c11_a0_2
  have ac11_o29_0 := fun o => keepa o c11_o29_0
  have ac11_o29_1 := fun o => keepa o c11_o29_1
  have ac11_o29_2 := fun o => keepa o c11_o29_2
  have ac11_o29_3 := fun o => keepa o c11_o29_3
  have ac11_o29_4 := fun o => keepa o c11_o29_4
  have ac11_o29_5 := fun o => keepa o c11_o29_5
  have ac11_o31_0 := fun o => keepa o c11_o31_0
  have ac11_o31_1 := fun o => keepa o c11_o31_1
  have ac11_o31_2 := fun o => keepa o c11_o31_2
  have rP0 := P0.out.below hb'; clear P0; have P0 := Lib.hid rP0; clear rP0
  have rP2 := P2.out.below hb'; clear P2; have P2 := Lib.hid rP2; clear rP2
  have rP3 := P3.out.below hb'; clear P3; have P3 := Lib.hid rP3; clear rP3
  have rP4 := P4.out.below hb'; clear P4; have P4 := Lib.hid rP4; clear rP4
  have rFo12 := Fo12.out.below hb'; clear Fo12; have Fo12 := Lib.hid rFo12; clear rFo12
  have rFo13 := Fo13.out.below hb'; clear Fo13; have Fo13 := Lib.hid rFo13; clear rFo13
  have rFo14 := Fo14.out.below hb'; clear Fo14; have Fo14 := Lib.hid rFo14; clear rFo14
  have rFo15 := Fo15.out.below hb'; clear Fo15; have Fo15 := Lib.hid rFo15; clear rFo15
  have rFo29 := Fo29.out.below hb'; clear Fo29; have Fo29 := Lib.hid rFo29; clear rFo29
  have rFo31 := Fo31.out.below hb'; clear Fo31; have Fo31 := Lib.hid rFo31; clear rFo31
  have rFo32 := Fo32.out.below hb'; clear Fo32; have Fo32 := Lib.hid rFo32; clear rFo32
  have rFo33 := Fo33.out.below hb'; clear Fo33; have Fo33 := Lib.hid rFo33; clear rFo33
  have rFo34 := Fo34.out.below hb'; clear Fo34; have Fo34 := Lib.hid rFo34; clear rFo34
  have rB := below_chain B.out (by omega) hb'; clear B; have B := Lib.hid rB; clear rB
  have Fo48 := Lib.hid q46; clear q46
  obtain ⟨ln_o48, ln_o48_1, ln_o48_2, bI0_o48, hs0_o48, bm0_o48, bI1_o48, hs1_o48, bm1_o48⟩ := l47
  have hI0_o48 := (fun t ht => Nat.le_trans (bI0_o48 t ht) (by omega) : ∀ t ∈ its38, t.n ≤ 1000000000); have hm0_o48 := Lib.hid bm0_o48; clear bI0_o48 bm0_o48
  have hI1_o48 := (fun t ht => Nat.le_trans (bI1_o48 t ht) (by omega) : ∀ t ∈ jts42, t.n ≤ 1000000000); have hm1_o48 := Lib.hid bm1_o48; clear bI1_o48 bm1_o48
  clear hb hb'
  go_wp2_with fail
  refine (eqFormula_t _ _ _ _ _ _ _ _ _ _ _ _ _ _ _ _ _ _ _ _ _ _ _ _ _ _ _ (by exact ((Fo48.out.rd).alloc _)) (by exact ((Fo29.out.rd).alloc _)) (by omega) (by omega) (by omega) hI0_o48 (hm0_o48.out.trans hm0_o29.out.symm) hI1_o48 (hm1_o48.out.trans hm1_o29.out.symm)).mono ?_
  rintro e w12 ⟨rfl, hb⟩
  have hb' : Below w11.heap.size w11 w12 := (by first | (with_reducible exact hb) | (with_reducible exact up1 hb) | (with_reducible exact up2 hb) | (with_reducible exact up3 hb) | (with_reducible exact up4 hb) | (with_reducible exact below_of_drew hb) | (with_reducible exact below_of_drew (up1 hb)))
  have z12 := hb'.size
  have c12_a0_0 : w12.cell? ⟨w.heap.size, 0, none⟩ = some (.int .i64 sy0) := keepc hb' c11_a0_0
  clear c11_a0_0 ac11_a0_0
  have c12_a0_1 : w12.cell? ⟨w.heap.size, 1, none⟩ = some (.int .i64 st0) := keepc hb' c11_a0_1
  clear c11_a0_1 ac11_a0_1
  have c12_a0_2 : w12.cell? ⟨w.heap.size, 2, none⟩ = some (.slice A0 n0 c0) := keepc hb' c11_a0_2
  clear c11_a0_2 ac11_a0_2
  have c12_o29_0 : w12.cell? ⟨w6.heap.size, 0, none⟩ = some (.int .i64 (rpR sy0 st0 xs0 x1 xs2 xs3 xs4).1.1) := keepc hb' c11_o29_0
  clear c11_o29_0 ac11_o29_0
  have c12_o29_1 : w12.cell? ⟨w6.heap.size, 1, none⟩ = some (.int .i64 (rpR sy0 st0 xs0 x1 xs2 xs3 xs4).1.2.1) := keepc hb' c11_o29_1
  clear c11_o29_1 ac11_o29_1
  have c12_o29_2 : w12.cell? ⟨w6.heap.size, 2, none⟩ = some (.int .i64 (rpR sy0 st0 xs0 x1 xs2 xs3 xs4).1.2.2.1) := keepc hb' c11_o29_2
  clear c11_o29_2 ac11_o29_2
  have c12_o29_3 : w12.cell? ⟨w6.heap.size, 3, none⟩ = some (.slice A16 n17 c18) := keepc hb' c11_o29_3
  clear c11_o29_3 ac11_o29_3
  have c12_o29_4 : w12.cell? ⟨w6.heap.size, 4, none⟩ = some (.slice B20 m21 d22) := keepc hb' c11_o29_4
  clear c11_o29_4 ac11_o29_4
  have c12_o29_5 : w12.cell? ⟨w6.heap.size, 5, none⟩ = some (.slice C24 k25 e26) := keepc hb' c11_o29_5
  clear c11_o29_5 ac11_o29_5
  have c12_o31_0 : w12.cell? ⟨w7.heap.size, 0, none⟩ = some (.int .i64 sy0) := keepc hb' c11_o31_0
  clear c11_o31_0 ac11_o31_0
  have c12_o31_1 : w12.cell? ⟨w7.heap.size, 1, none⟩ = some (.int .i64 st0) := keepc hb' c11_o31_1
  clear c11_o31_1 ac11_o31_1
  have c12_o31_2 : w12.cell? ⟨w7.heap.size, 2, none⟩ = some (.slice (some ⟨g030, 0, none⟩) n0 n0) := keepc hb' c11_o31_2
  clear c11_o31_2 ac11_o31_2
  have c12_o48_0 : w12.cell? ⟨w11.heap.size, 0, none⟩ = some (.int .i64 (rpR sy0 st0 xs0 x1 xs2 xs3 xs4).1.1) := keepc hb (by first | (simp; done) | (rw [World.cell?_alloc_past _ _ _ (by simp <;> omega)]; simp; done) | (rw [World.cell?_alloc_past _ _ _ (by simp <;> omega), World.cell?_alloc_past _ _ _ (by simp <;> omega)]; simp; done) | (rw [World.cell?_alloc_past _ _ _ (by simp <;> omega), World.cell?_alloc_past _ _ _ (by simp <;> omega), World.cell?_alloc_past _ _ _ (by simp <;> omega)]; simp; done) | (rw [World.cell?_alloc_at _ _ _ _ (by simp)]; simp; done) | (rw [World.cell?_alloc_past _ _ _ (by simp <;> omega), World.cell?_alloc_at _ _ _ _ (by simp)]; simp; done) | (rw [World.cell?_alloc_past _ _ _ (by simp <;> omega), World.cell?_alloc_past _ _ _ (by simp <;> omega), World.cell?_alloc_at _ _ _ _ (by simp)]; simp; done) | (rw [World.cell?_alloc_past _ _ _ (by simp <;> omega), World.cell?_alloc_past _ _ _ (by simp <;> omega), World.cell?_alloc_past _ _ _ (by simp <;> omega), World.cell?_alloc_at _ _ _ _ (by simp)]; simp; done))
  have hl_c12_o48_0 : w11.heap.size < w12.heap.size := World.block_lt_of_cell? w12 _ c12_o48_0
  have c12_o48_1 : w12.cell? ⟨w11.heap.size, 1, none⟩ = some (.int .i64 (rpR sy0 st0 xs0 x1 xs2 xs3 xs4).1.2.1) := keepc hb (by first | (simp; done) | (rw [World.cell?_alloc_past _ _ _ (by simp <;> omega)]; simp; done) | (rw [World.cell?_alloc_past _ _ _ (by simp <;> omega), World.cell?_alloc_past _ _ _ (by simp <;> omega)]; simp; done) | (rw [World.cell?_alloc_past _ _ _ (by simp <;> omega), World.cell?_alloc_past _ _ _ (by simp <;> omega), World.cell?_alloc_past _ _ _ (by simp <;> omega)]; simp; done) | (rw [World.cell?_alloc_at _ _ _ _ (by simp)]; simp; done) | (rw [World.cell?_alloc_past _ _ _ (by simp <;> omega), World.cell?_alloc_at _ _ _ _ (by simp)]; simp; done) | (rw [World.cell?_alloc_past _ _ _ (by simp <;> omega), World.cell?_alloc_past _ _ _ (by simp <;> omega), World.cell?_alloc_at _ _ _ _ (by simp)]; simp; done) | (rw [World.cell?_alloc_past _ _ _ (by simp <;> omega), World.cell?_alloc_past _ _ _ (by simp <;> omega), World.cell?_alloc_past _ _ _ (by simp <;> omega), World.cell?_alloc_at _ _ _ _ (by simp)]; simp; done))
  have c12_o48_2 : w12.cell? ⟨w11.heap.size, 2, none⟩ = some (.int .i64 (rpR sy0 st0 xs0 x1 xs2 xs3 xs4).1.2.2.1) := keepc hb (by first | (simp; done) | (rw [World.cell?_alloc_past _ _ _ (by simp <;> omega)]; simp; done) | (rw [World.cell?_alloc_past _ _ _ (by simp <;> omega), World.cell?_alloc_past _ _ _ (by simp <;> omega)]; simp; done) | (rw [World.cell?_alloc_past _ _ _ (by simp <;> omega), World.cell?_alloc_past _ _ _ (by simp <;> omega), World.cell?_alloc_past _ _ _ (by simp <;> omega)]; simp; done) | (rw [World.cell?_alloc_at _ _ _ _ (by simp)]; simp; done) | (rw [World.cell?_alloc_past _ _ _ (by simp <;> omega), World.cell?_alloc_at _ _ _ _ (by simp)]; simp; done) | (rw [World.cell?_alloc_past _ _ _ (by simp <;> omega), World.cell?_alloc_past _ _ _ (by simp <;> omega), World.cell?_alloc_at _ _ _ _ (by simp)]; simp; done) | (rw [World.cell?_alloc_past _ _ _ (by simp <;> omega), World.cell?_alloc_past _ _ _ (by simp <;> omega), World.cell?_alloc_past _ _ _ (by simp <;> omega), World.cell?_alloc_at _ _ _ _ (by simp)]; simp; done))
  have c12_o48_3 : w12.cell? ⟨w11.heap.size, 3, none⟩ = some (.slice A35 n36 c37) := keepc hb (by first | (simp; done) | (rw [World.cell?_alloc_past _ _ _ (by simp <;> omega)]; simp; done) | (rw [World.cell?_alloc_past _ _ _ (by simp <;> omega), World.cell?_alloc_past _ _ _ (by simp <;> omega)]; simp; done) | (rw [World.cell?_alloc_past _ _ _ (by simp <;> omega), World.cell?_alloc_past _ _ _ (by simp <;> omega), World.cell?_alloc_past _ _ _ (by simp <;> omega)]; simp; done) | (rw [World.cell?_alloc_at _ _ _ _ (by simp)]; simp; done) | (rw [World.cell?_alloc_past _ _ _ (by simp <;> omega), World.cell?_alloc_at _ _ _ _ (by simp)]; simp; done) | (rw [World.cell?_alloc_past _ _ _ (by simp <;> omega), World.cell?_alloc_past _ _ _ (by simp <;> omega), World.cell?_alloc_at _ _ _ _ (by simp)]; simp; done) | (rw [World.cell?_alloc_past _ _ _ (by simp <;> omega), World.cell?_alloc_past _ _ _ (by simp <;> omega), World.cell?_alloc_past _ _ _ (by simp <;> omega), World.cell?_alloc_at _ _ _ _ (by simp)]; simp; done))
  have c12_o48_4 : w12.cell? ⟨w11.heap.size, 4, none⟩ = some (.slice B39 m40 d41) := keepc hb (by first | (simp; done) | (rw [World.cell?_alloc_past _ _ _ (by simp <;> omega)]; simp; done) | (rw [World.cell?_alloc_past _ _ _ (by simp <;> omega), World.cell?_alloc_past _ _ _ (by simp <;> omega)]; simp; done) | (rw [World.cell?_alloc_past _ _ _ (by simp <;> omega), World.cell?_alloc_past _ _ _ (by simp <;> omega), World.cell?_alloc_past _ _ _ (by simp <;> omega)]; simp; done) | (rw [World.cell?_alloc_at _ _ _ _ (by simp)]; simp; done) | (rw [World.cell?_alloc_past _ _ _ (by simp <;> omega), World.cell?_alloc_at _ _ _ _ (by simp)]; simp; done) | (rw [World.cell?_alloc_past _ _ _ (by simp <;> omega), World.cell?_alloc_past _ _ _ (by simp <;> omega), World.cell?_alloc_at _ _ _ _ (by simp)]; simp; done) | (rw [World.cell?_alloc_past _ _ _ (by simp <;> omega), World.cell?_alloc_past _ _ _ (by simp <;> omega), World.cell?_alloc_past _ _ _ (by simp <;> omega), World.cell?_alloc_at _ _ _ _ (by simp)]; simp; done))
  have c12_o48_5 : w12.cell? ⟨w11.heap.size, 5, none⟩ = some (.slice C43 k44 e45) := keepc hb (by first | (simp; done) | (rw [World.cell?_alloc_past _ _ _ (by simp <;> omega)]; simp; done) | (rw [World.cell?_alloc_past _ _ _ (by simp <;> omega), World.cell?_alloc_past _ _ _ (by simp <;> omega)]; simp; done) | (rw [World.cell?_alloc_past _ _ _ (by simp <;> omega), World.cell?_alloc_past _ _ _ (by simp <;> omega), World.cell?_alloc_past _ _ _ (by simp <;> omega)]; simp; done) | (rw [World.cell?_alloc_at _ _ _ _ (by simp)]; simp; done) | (rw [World.cell?_alloc_past _ _ _ (by simp <;> omega), World.cell?_alloc_at _ _ _ _ (by simp)]; simp; done) | (rw [World.cell?_alloc_past _ _ _ (by simp <;> omega), World.cell?_alloc_past _ _ _ (by simp <;> omega), World.cell?_alloc_at _ _ _ _ (by simp)]; simp; done) | (rw [World.cell?_alloc_past _ _ _ (by simp <;> omega), World.cell?_alloc_past _ _ _ (by simp <;> omega), World.cell?_alloc_past _ _ _ (by simp <;> omega), World.cell?_alloc_at _ _ _ _ (by simp)]; simp; done))
  have ac12_a0_0 := fun o => keepa o c12_a0_0
  have ac12_a0_1 := fun o => keepa o c12_a0_1
  have ac12_a0_2 := fun o => keepa o c12_a0_2
  have ac12_o29_0 := fun o => keepa o c12_o29_0
  have ac12_o29_1 := fun o => keepa o c12_o29_1
  have ac12_o29_2 := fun o => keepa o c12_o29_2
  have ac12_o29_3 := fun o => keepa o c12_o29_3
  have ac12_o29_4 := fun o => keepa o c12_o29_4
  have ac12_o29_5 := fun o => keepa o c12_o29_5
  have ac12_o31_0 := fun o => keepa o c12_o31_0
  have ac12_o31_1 := fun o => keepa o c12_o31_1
  have ac12_o31_2 := fun o => keepa o c12_o31_2
  have ac12_o48_0 := fun o => keepa o c12_o48_0
  have ac12_o48_1 := fun o => keepa o c12_o48_1
  have ac12_o48_2 := fun o => keepa o c12_o48_2
  have ac12_o48_3 := fun o => keepa o c12_o48_3
  have ac12_o48_4 := fun o => keepa o c12_o48_4
  have ac12_o48_5 := fun o => keepa o c12_o48_5
  have rP0 := P0.out.below hb'; clear P0; have P0 := Lib.hid rP0; clear rP0
  have rP2 := P2.out.below hb'; clear P2; have P2 := Lib.hid rP2; clear rP2
  have rP3 := P3.out.below hb'; clear P3; have P3 := Lib.hid rP3; clear rP3
  have rP4 := P4.out.below hb'; clear P4; have P4 := Lib.hid rP4; clear rP4
  have rFo12 := Fo12.out.below hb'; clear Fo12; have Fo12 := Lib.hid rFo12; clear rFo12
  have rFo13 := Fo13.out.below hb'; clear Fo13; have Fo13 := Lib.hid rFo13; clear rFo13
  have rFo14 := Fo14.out.below hb'; clear Fo14; have Fo14 := Lib.hid rFo14; clear rFo14
  have rFo15 := Fo15.out.below hb'; clear Fo15; have Fo15 := Lib.hid rFo15; clear rFo15
  have rFo29 := Fo29.out.below hb'; clear Fo29; have Fo29 := Lib.hid rFo29; clear rFo29
  have rFo31 := Fo31.out.below hb'; clear Fo31; have Fo31 := Lib.hid rFo31; clear rFo31
  have rFo32 := Fo32.out.below hb'; clear Fo32; have Fo32 := Lib.hid rFo32; clear rFo32
  have rFo33 := Fo33.out.below hb'; clear Fo33; have Fo33 := Lib.hid rFo33; clear rFo33
  have rFo34 := Fo34.out.below hb'; clear Fo34; have Fo34 := Lib.hid rFo34; clear rFo34
  have rFo48 := Fo48.out.below hb'; clear Fo48; have Fo48 := Lib.hid rFo48; clear rFo48
  have rB := below_chain B.out (by omega) hb'; clear B; have B := Lib.hid rB; clear rB
  clear hb hb'
  go_wp2_with fail
  have fx_c12_a0_0 := Ext.cell c12_a0_0
  have fx_c12_a0_1 := Ext.cell c12_a0_1
  have fx_c12_a0_2 := Ext.cell c12_a0_2
  have fx_c12_o29_0 := Ext.cell c12_o29_0
  have fx_c12_o29_1 := Ext.cell c12_o29_1
  have fx_c12_o29_2 := Ext.cell c12_o29_2
  have fx_c12_o29_3 := Ext.cell c12_o29_3
  have fx_c12_o29_4 := Ext.cell c12_o29_4
  have fx_c12_o29_5 := Ext.cell c12_o29_5
  have fx_c12_o31_0 := Ext.cell c12_o31_0
  have fx_c12_o31_1 := Ext.cell c12_o31_1
  have fx_c12_o31_2 := Ext.cell c12_o31_2
  have fx_c12_o48_0 := Ext.cell c12_o48_0
  have fx_c12_o48_1 := Ext.cell c12_o48_1
  have fx_c12_o48_2 := Ext.cell c12_o48_2
  have fx_c12_o48_3 := Ext.cell c12_o48_3
  have fx_c12_o48_4 := Ext.cell c12_o48_4
  have fx_c12_o48_5 := Ext.cell c12_o48_5
  refine Mix.wp_region_mix [3, 3, 1, 1, 0] (fun w' => ∃ x : Ext w12, w' = x.w) (by kernel_rfl) (by kernel_rfl) (InExt.drew _) ?_
  repeat (first | (refine Mix.wpMix_read (by rfl) ?_; go_big_quiet_step (fail); refine wpQuiet_nil ?_) | (refine Mix.wpMix_pure (by rfl) ?_; go_big_quiet_step (fail); refine wpQuiet_nil ?_))
  refine Mix.wpMix_chg (by rfl) (fun K hK => ?_)
  go_wp2_with fail
  refine (toMachine_c _ _ _ _ _ _ _ (by exact (P0.out.rd)) (by omega)).mono ?_
  rintro e w13 ⟨g049, rfl, q13, hb⟩
  have hb' : Below w12.heap.size w12 w13 := (by first | (with_reducible exact hb) | (with_reducible exact up1 hb) | (with_reducible exact up2 hb) | (with_reducible exact up3 hb) | (with_reducible exact up4 hb) | (with_reducible exact below_of_drew hb) | (with_reducible exact below_of_drew (up1 hb)))
  have z13 := hb'.size
  have c13_a0_0 : w13.cell? ⟨w.heap.size, 0, none⟩ = some (.int .i64 sy0) := keepc hb' c12_a0_0
  clear c12_a0_0 ac12_a0_0
  have c13_a0_1 : w13.cell? ⟨w.heap.size, 1, none⟩ = some (.int .i64 st0) := keepc hb' c12_a0_1
  clear c12_a0_1 ac12_a0_1
  have c13_a0_2 : w13.cell? ⟨w.heap.size, 2, none⟩ = some (.slice A0 n0 c0) := keepc hb' c12_a0_2
  clear c12_a0_2 ac12_a0_2
  have c13_o29_0 : w13.cell? ⟨w6.heap.size, 0, none⟩ = some (.int .i64 (rpR sy0 st0 xs0 x1 xs2 xs3 xs4).1.1) := keepc hb' c12_o29_0
  clear c12_o29_0 ac12_o29_0
  have c13_o29_1 : w13.cell? ⟨w6.heap.size, 1, none⟩ = some (.int .i64 (rpR sy0 st0 xs0 x1 xs2 xs3 xs4).1.2.1) := keepc hb' c12_o29_1
  clear c12_o29_1 ac12_o29_1
  have c13_o29_2 : w13.cell? ⟨w6.heap.size, 2, none⟩ = some (.int .i64 (rpR sy0 st0 xs0 x1 xs2 xs3 xs4).1.2.2.1) := keepc hb' c12_o29_2
  clear c12_o29_2 ac12_o29_2
  have c13_o29_3 : w13.cell? ⟨w6.heap.size, 3, none⟩ = some (.slice A16 n17 c18) := keepc hb' c12_o29_3
  clear c12_o29_3 ac12_o29_3
  have c13_o29_4 : w13.cell? ⟨w6.heap.size, 4, none⟩ = some (.slice B20 m21 d22) := keepc hb' c12_o29_4
  clear c12_o29_4 ac12_o29_4
  have c13_o29_5 : w13.cell? ⟨w6.heap.size, 5, none⟩ = some (.slice C24 k25 e26) := keepc hb' c12_o29_5
  clear c12_o29_5 ac12_o29_5
  have c13_o31_0 : w13.cell? ⟨w7.heap.size, 0, none⟩ = some (.int .i64 sy0) := keepc hb' c12_o31_0
  clear c12_o31_0 ac12_o31_0
  have c13_o31_1 : w13.cell? ⟨w7.heap.size, 1, none⟩ = some (.int .i64 st0) := keepc hb' c12_o31_1
  clear c12_o31_1 ac12_o31_1
  have c13_o31_2 : w13.cell? ⟨w7.heap.size, 2, none⟩ = some (.slice (some ⟨g030, 0, none⟩) n0 n0) := keepc hb' c12_o31_2
  clear c12_o31_2 ac12_o31_2
  have c13_o48_0 : w13.cell? ⟨w11.heap.size, 0, none⟩ = some (.int .i64 (rpR sy0 st0 xs0 x1 xs2 xs3 xs4).1.1) := keepc hb' c12_o48_0
  clear c12_o48_0 ac12_o48_0
  have c13_o48_1 : w13.cell? ⟨w11.heap.size, 1, none⟩ = some (.int .i64 (rpR sy0 st0 xs0 x1 xs2 xs3 xs4).1.2.1) := keepc hb' c12_o48_1
  clear c12_o48_1 ac12_o48_1
  have c13_o48_2 : w13.cell? ⟨w11.heap.size, 2, none⟩ = some (.int .i64 (rpR sy0 st0 xs0 x1 xs2 xs3 xs4).1.2.2.1) := keepc hb' c12_o48_2
  clear c12_o48_2 ac12_o48_2
  have c13_o48_3 : w13.cell? ⟨w11.heap.size, 3, none⟩ = some (.slice A35 n36 c37) := keepc hb' c12_o48_3
  clear c12_o48_3 ac12_o48_3
  have c13_o48_4 : w13.cell? ⟨w11.heap.size, 4, none⟩ = some (.slice B39 m40 d41) := keepc hb' c12_o48_4
  clear c12_o48_4 ac12_o48_4
  have c13_o48_5 : w13.cell? ⟨w11.heap.size, 5, none⟩ = some (.slice C43 k44 e45) := keepc hb' c12_o48_5
  clear c12_o48_5 ac12_o48_5
  have ac13_a0_0 := fun o => keepa o c13_a0_0
  have ac13_a0_1 := fun o => keepa o c13_a0_1
  have ac13_a0_2 := fun o => keepa o c13_a0_2
  have ac13_o29_0 := fun o => keepa o c13_o29_0
  have ac13_o29_1 := fun o => keepa o c13_o29_1
  have ac13_o29_2 := fun o => keepa o c13_o29_2
  have ac13_o29_3 := fun o => keepa o c13_o29_3
  have ac13_o29_4 := fun o => keepa o c13_o29_4
  have ac13_o29_5 := fun o => keepa o c13_o29_5
  have ac13_o31_0 := fun o => keepa o c13_o31_0
  have ac13_o31_1 := fun o => keepa o c13_o31_1
  have ac13_o31_2 := fun o => keepa o c13_o31_2
  have ac13_o48_0 := fun o => keepa o c13_o48_0
  have ac13_o48_1 := fun o => keepa o c13_o48_1
  have ac13_o48_2 := fun o => keepa o c13_o48_2
  have ac13_o48_3 := fun o => keepa o c13_o48_3
  have ac13_o48_4 := fun o => keepa o c13_o48_4
  have ac13_o48_5 := fun o => keepa o c13_o48_5
  have rP0 := P0.out.below hb'; clear P0; have P0 := Lib.hid rP0; clear rP0
  have rP2 := P2.out.below hb'; clear P2; have P2 := Lib.hid rP2; clear rP2
  have rP3 := P3.out.below hb'; clear P3; have P3 := Lib.hid rP3; clear rP3
  have rP4 := P4.out.below hb'; clear P4; have P4 := Lib.hid rP4; clear rP4
  have rFo12 := Fo12.out.below hb'; clear Fo12; have Fo12 := Lib.hid rFo12; clear rFo12
  have rFo13 := Fo13.out.below hb'; clear Fo13; have Fo13 := Lib.hid rFo13; clear rFo13
  have rFo14 := Fo14.out.below hb'; clear Fo14; have Fo14 := Lib.hid rFo14; clear rFo14
  have rFo15 := Fo15.out.below hb'; clear Fo15; have Fo15 := Lib.hid rFo15; clear rFo15
  have rFo29 := Fo29.out.below hb'; clear Fo29; have Fo29 := Lib.hid rFo29; clear rFo29
  have rFo31 := Fo31.out.below hb'; clear Fo31; have Fo31 := Lib.hid rFo31; clear rFo31
  have rFo32 := Fo32.out.below hb'; clear Fo32; have Fo32 := Lib.hid rFo32; clear rFo32
  have rFo33 := Fo33.out.below hb'; clear Fo33; have Fo33 := Lib.hid rFo33; clear rFo33
  have rFo34 := Fo34.out.below hb'; clear Fo34; have Fo34 := Lib.hid rFo34; clear rFo34
  have rFo48 := Fo48.out.below hb'; clear Fo48; have Fo48 := Lib.hid rFo48; clear rFo48
  have rB := below_chain B.out (by omega) hb'; clear B; have B := Lib.hid rB; clear rB
  have Fo50 := Lib.hid q13; clear q13
  have em13 : Below w12.heap.size w12 w13 := hb'
  clear hb hb'
  go_wp2_with fail
  refine hK _ _ ⟨⟨_, em13⟩, rfl⟩ ?_
  clear hK K
  refine Mix.wpMix_chg (by rfl) (fun K hK => ?_)
  go_wp2_with fail
  refine (eqMachine_t _ _ _ _ _ _ _ _ _ _ (by exact (Fo31.out.rd)) (by exact (Fo50.out.rd)) (by omega)).mono ?_
  rintro e w14 ⟨rfl, hb⟩
  have hb' : Below w13.heap.size w13 w14 := (by first | (with_reducible exact hb) | (with_reducible exact up1 hb) | (with_reducible exact up2 hb) | (with_reducible exact up3 hb) | (with_reducible exact up4 hb) | (with_reducible exact below_of_drew hb) | (with_reducible exact below_of_drew (up1 hb)))
  have z14 := hb'.size
  have c14_a0_0 : w14.cell? ⟨w.heap.size, 0, none⟩ = some (.int .i64 sy0) := keepc hb' c13_a0_0
  clear c13_a0_0 ac13_a0_0
  have c14_a0_1 : w14.cell? ⟨w.heap.size, 1, none⟩ = some (.int .i64 st0) := keepc hb' c13_a0_1
  clear c13_a0_1 ac13_a0_1
  have c14_a0_2 : w14.cell? ⟨w.heap.size, 2, none⟩ = some (.slice A0 n0 c0) := keepc hb' c13_a0_2
  clear c13_a0_2 ac13_a0_2
  have c14_o29_0 : w14.cell? ⟨w6.heap.size, 0, none⟩ = some (.int .i64 (rpR sy0 st0 xs0 x1 xs2 xs3 xs4).1.1) := keepc hb' c13_o29_0
  clear c13_o29_0 ac13_o29_0
  have c14_o29_1 : w14.cell? ⟨w6.heap.size, 1, none⟩ = some (.int .i64 (rpR sy0 st0 xs0 x1 xs2 xs3 xs4).1.2.1) := keepc hb' c13_o29_1
  clear c13_o29_1 ac13_o29_1
  have c14_o29_2 : w14.cell? ⟨w6.heap.size, 2, none⟩ = some (.int .i64 (rpR sy0 st0 xs0 x1 xs2 xs3 xs4).1.2.2.1) := keepc hb' c13_o29_2
  clear c13_o29_2 ac13_o29_2
  have c14_o29_3 : w14.cell? ⟨w6.heap.size, 3, none⟩ = some (.slice A16 n17 c18) := keepc hb' c13_o29_3
  clear c13_o29_3 ac13_o29_3
  have c14_o29_4 : w14.cell? ⟨w6.heap.size, 4, none⟩ = some (.slice B20 m21 d22) := keepc hb' c13_o29_4
  clear c13_o29_4 ac13_o29_4
  have c14_o29_5 : w14.cell? ⟨w6.heap.size, 5, none⟩ = some (.slice C24 k25 e26) := keepc hb' c13_o29_5
  clear c13_o29_5 ac13_o29_5
  have c14_o31_0 : w14.cell? ⟨w7.heap.size, 0, none⟩ = some (.int .i64 sy0) := keepc hb' c13_o31_0
  clear c13_o31_0 ac13_o31_0
  have c14_o31_1 : w14.cell? ⟨w7.heap.size, 1, none⟩ = some (.int .i64 st0) := keepc hb' c13_o31_1
  clear c13_o31_1 ac13_o31_1
  have c14_o31_2 : w14.cell? ⟨w7.heap.size, 2, none⟩ = some (.slice (some ⟨g030, 0, none⟩) n0 n0) := keepc hb' c13_o31_2
  clear c13_o31_2 ac13_o31_2
  have c14_o48_0 : w14.cell? ⟨w11.heap.size, 0, none⟩ = some (.int .i64 (rpR sy0 st0 xs0 x1 xs2 xs3 xs4).1.1) := keepc hb' c13_o48_0
  clear c13_o48_0 ac13_o48_0
  have c14_o48_1 : w14.cell? ⟨w11.heap.size, 1, none⟩ = some (.int .i64 (rpR sy0 st0 xs0 x1 xs2 xs3 xs4).1.2.1) := keepc hb' c13_o48_1
  clear c13_o48_1 ac13_o48_1
  have c14_o48_2 : w14.cell? ⟨w11.heap.size, 2, none⟩ = some (.int .i64 (rpR sy0 st0 xs0 x1 xs2 xs3 xs4).1.2.2.1) := keepc hb' c13_o48_2
  clear c13_o48_2 ac13_o48_2
  have c14_o48_3 : w14.cell? ⟨w11.heap.size, 3, none⟩ = some (.slice A35 n36 c37) := keepc hb' c13_o48_3
  clear c13_o48_3 ac13_o48_3
  have c14_o48_4 : w14.cell? ⟨w11.heap.size, 4, none⟩ = some (.slice B39 m40 d41) := keepc hb' c13_o48_4
  clear c13_o48_4 ac13_o48_4
  have c14_o48_5 : w14.cell? ⟨w11.heap.size, 5, none⟩ = some (.slice C43 k44 e45) := keepc hb' c13_o48_5
  clear c13_o48_5 ac13_o48_5
  have ac14_a0_0 := fun o => keepa o c14_a0_0
  have ac14_a0_1 := fun o => keepa o c14_a0_1
  have ac14_a0_2 := fun o => keepa o c14_a0_2
  have ac14_o29_0 := fun o => keepa o c14_o29_0
  have ac14_o29_1 := fun o => keepa o c14_o29_1
  have ac14_o29_2 := fun o => keepa o c14_o29_2
  have ac14_o29_3 := fun o => keepa o c14_o29_3
  have ac14_o29_4 := fun o => keepa o c14_o29_4
  have ac14_o29_5 := fun o => keepa o c14_o29_5
  have ac14_o31_0 := fun o => keepa o c14_o31_0
  have ac14_o31_1 := fun o => keepa o c14_o31_1
  have ac14_o31_2 := fun o => keepa o c14_o31_2
  have ac14_o48_0 := fun o => keepa o c14_o48_0
  have ac14_o48_1 := fun o => keepa o c14_o48_1
  have ac14_o48_2 := fun o => keepa o c14_o48_2
  have ac14_o48_3 := fun o => keepa o c14_o48_3
  have ac14_o48_4 := fun o => keepa o c14_o48_4
  have ac14_o48_5 := fun o => keepa o c14_o48_5
  have rP0 := P0.out.below hb'; clear P0; have P0 := Lib.hid rP0; clear rP0
  have rP2 := P2.out.below hb'; clear P2; have P2 := Lib.hid rP2; clear rP2
  have rP3 := P3.out.below hb'; clear P3; have P3 := Lib.hid rP3; clear rP3
  have rP4 := P4.out.below hb'; clear P4; have P4 := Lib.hid rP4; clear rP4
  have rFo12 := Fo12.out.below hb'; clear Fo12; have Fo12 := Lib.hid rFo12; clear rFo12
  have rFo13 := Fo13.out.below hb'; clear Fo13; have Fo13 := Lib.hid rFo13; clear rFo13
  have rFo14 := Fo14.out.below hb'; clear Fo14; have Fo14 := Lib.hid rFo14; clear rFo14
  have rFo15 := Fo15.out.below hb'; clear Fo15; have Fo15 := Lib.hid rFo15; clear rFo15
  have rFo29 := Fo29.out.below hb'; clear Fo29; have Fo29 := Lib.hid rFo29; clear rFo29
  have rFo31 := Fo31.out.below hb'; clear Fo31; have Fo31 := Lib.hid rFo31; clear rFo31
  have rFo32 := Fo32.out.below hb'; clear Fo32; have Fo32 := Lib.hid rFo32; clear rFo32
  have rFo33 := Fo33.out.below hb'; clear Fo33; have Fo33 := Lib.hid rFo33; clear rFo33
  have rFo34 := Fo34.out.below hb'; clear Fo34; have Fo34 := Lib.hid rFo34; clear rFo34
  have rFo48 := Fo48.out.below hb'; clear Fo48; have Fo48 := Lib.hid rFo48; clear rFo48
  have rFo50 := Fo50.out.below hb'; clear Fo50; have Fo50 := Lib.hid rFo50; clear rFo50
  have rB := below_chain B.out (by omega) hb'; clear B; have B := Lib.hid rB; clear rB
  have em14 : Below w12.heap.size w12 w14 := below_chain em13 (by omega) hb'
  clear hb hb'
  go_wp2_with fail
  refine hK _ _ ⟨⟨_, em14⟩, rfl⟩ ?_
  clear hK K
  repeat (first | (refine Mix.wpMix_read (by rfl) ?_; go_big_quiet_step (fail); refine wpQuiet_nil ?_) | (refine Mix.wpMix_pure (by rfl) ?_; go_big_quiet_step (fail); refine wpQuiet_nil ?_))
  (refine Mix.wpMix_nil ?_; try simp only [Exit.then])
  clear fx_c12_a0_0
  clear fx_c12_a0_1
  clear fx_c12_a0_2
  clear fx_c12_o29_0
  clear fx_c12_o29_1
  clear fx_c12_o29_2
  clear fx_c12_o29_3
  clear fx_c12_o29_4
  clear fx_c12_o29_5
  clear fx_c12_o31_0
  clear fx_c12_o31_1
  clear fx_c12_o31_2
  clear fx_c12_o48_0
  clear fx_c12_o48_1
  clear fx_c12_o48_2
  clear fx_c12_o48_3
  clear fx_c12_o48_4
  clear fx_c12_o48_5
  clear Fo50
  go_wp2_with fail
  refine (toInt64S_c _ _ _ _ _ (by exact (P2.out.1)) (by omega)).mono ?_
  rintro e w15 ⟨rfl, q15, hb⟩
  have hb' : Below w14.heap.size w14 w15 := (by first | (with_reducible exact hb) | (with_reducible exact up1 hb) | (with_reducible exact up2 hb) | (with_reducible exact up3 hb) | (with_reducible exact up4 hb) | (with_reducible exact below_of_drew hb) | (with_reducible exact below_of_drew (up1 hb)))
  have z15 := hb'.size
  have c15_a0_0 : w15.cell? ⟨w.heap.size, 0, none⟩ = some (.int .i64 sy0) := keepc hb' c14_a0_0
  clear c14_a0_0 ac14_a0_0
  have c15_a0_1 : w15.cell? ⟨w.heap.size, 1, none⟩ = some (.int .i64 st0) := keepc hb' c14_a0_1
  clear c14_a0_1 ac14_a0_1
  have c15_a0_2 : w15.cell? ⟨w.heap.size, 2, none⟩ = some (.slice A0 n0 c0) := keepc hb' c14_a0_2
  clear c14_a0_2 ac14_a0_2
  have c15_o29_0 : w15.cell? ⟨w6.heap.size, 0, none⟩ = some (.int .i64 (rpR sy0 st0 xs0 x1 xs2 xs3 xs4).1.1) := keepc hb' c14_o29_0
  clear c14_o29_0 ac14_o29_0
  have c15_o29_1 : w15.cell? ⟨w6.heap.size, 1, none⟩ = some (.int .i64 (rpR sy0 st0 xs0 x1 xs2 xs3 xs4).1.2.1) := keepc hb' c14_o29_1
  clear c14_o29_1 ac14_o29_1
  have c15_o29_2 : w15.cell? ⟨w6.heap.size, 2, none⟩ = some (.int .i64 (rpR sy0 st0 xs0 x1 xs2 xs3 xs4).1.2.2.1) := keepc hb' c14_o29_2
  clear c14_o29_2 ac14_o29_2
  have c15_o29_3 : w15.cell? ⟨w6.heap.size, 3, none⟩ = some (.slice A16 n17 c18) := keepc hb' c14_o29_3
  clear c14_o29_3 ac14_o29_3
  have c15_o29_4 : w15.cell? ⟨w6.heap.size, 4, none⟩ = some (.slice B20 m21 d22) := keepc hb' c14_o29_4
  clear c14_o29_4 ac14_o29_4
  have c15_o29_5 : w15.cell? ⟨w6.heap.size, 5, none⟩ = some (.slice C24 k25 e26) := keepc hb' c14_o29_5
  clear c14_o29_5 ac14_o29_5
  have c15_o31_0 : w15.cell? ⟨w7.heap.size, 0, none⟩ = some (.int .i64 sy0) := keepc hb' c14_o31_0
  clear c14_o31_0 ac14_o31_0
  have c15_o31_1 : w15.cell? ⟨w7.heap.size, 1, none⟩ = some (.int .i64 st0) := keepc hb' c14_o31_1
  clear c14_o31_1 ac14_o31_1
  have c15_o31_2 : w15.cell? ⟨w7.heap.size, 2, none⟩ = some (.slice (some ⟨g030, 0, none⟩) n0 n0) := keepc hb' c14_o31_2
  clear c14_o31_2 ac14_o31_2
  have c15_o48_0 : w15.cell? ⟨w11.heap.size, 0, none⟩ = some (.int .i64 (rpR sy0 st0 xs0 x1 xs2 xs3 xs4).1.1) := keepc hb' c14_o48_0
  clear c14_o48_0 ac14_o48_0
  have c15_o48_1 : w15.cell? ⟨w11.heap.size, 1, none⟩ = some (.int .i64 (rpR sy0 st0 xs0 x1 xs2 xs3 xs4).1.2.1) := keepc hb' c14_o48_1
  clear c14_o48_1 ac14_o48_1
  have c15_o48_2 : w15.cell? ⟨w11.heap.size, 2, none⟩ = some (.int .i64 (rpR sy0 st0 xs0 x1 xs2 xs3 xs4).1.2.2.1) := keepc hb' c14_o48_2
  clear c14_o48_2 ac14_o48_2
  have c15_o48_3 : w15.cell? ⟨w11.heap.size, 3, none⟩ = some (.slice A35 n36 c37) := keepc hb' c14_o48_3
  clear c14_o48_3 ac14_o48_3
  have c15_o48_4 : w15.cell? ⟨w11.heap.size, 4, none⟩ = some (.slice B39 m40 d41) := keepc hb' c14_o48_4
  clear c14_o48_4 ac14_o48_4
  have c15_o48_5 : w15.cell? ⟨w11.heap.size, 5, none⟩ = some (.slice C43 k44 e45) := keepc hb' c14_o48_5
  clear c14_o48_5 ac14_o48_5
  have ac15_a0_0 := fun o => keepa o c15_a0_0
  have ac15_a0_1 := fun o => keepa o c15_a0_1
  have ac15_a0_2 := fun o => keepa o c15_a0_2
  have ac15_o29_0 := fun o => keepa o c15_o29_0
  have ac15_o29_1 := fun o => keepa o c15_o29_1
  have ac15_o29_2 := fun o => keepa o c15_o29_2
  have ac15_o29_3 := fun o => keepa o c15_o29_3
  have ac15_o29_4 := fun o => keepa o c15_o29_4
  have ac15_o29_5 := fun o => keepa o c15_o29_5
  have ac15_o31_0 := fun o => keepa o c15_o31_0
  have ac15_o31_1 := fun o => keepa o c15_o31_1
  have ac15_o31_2 := fun o => keepa o c15_o31_2
  have ac15_o48_0 := fun o => keepa o c15_o48_0
  have ac15_o48_1 := fun o => keepa o c15_o48_1
  have ac15_o48_2 := fun o => keepa o c15_o48_2
  have ac15_o48_3 := fun o => keepa o c15_o48_3
  have ac15_o48_4 := fun o => keepa o c15_o48_4
  have ac15_o48_5 := fun o => keepa o c15_o48_5
  have rP0 := P0.out.below hb'; clear P0; have P0 := Lib.hid rP0; clear rP0
  have rP2 := P2.out.below hb'; clear P2; have P2 := Lib.hid rP2; clear rP2
  have rP3 := P3.out.below hb'; clear P3; have P3 := Lib.hid rP3; clear rP3
  have rP4 := P4.out.below hb'; clear P4; have P4 := Lib.hid rP4; clear rP4
  have rFo12 := Fo12.out.below hb'; clear Fo12; have Fo12 := Lib.hid rFo12; clear rFo12
  have rFo13 := Fo13.out.below hb'; clear Fo13; have Fo13 := Lib.hid rFo13; clear rFo13
  have rFo14 := Fo14.out.below hb'; clear Fo14; have Fo14 := Lib.hid rFo14; clear rFo14
  have rFo15 := Fo15.out.below hb'; clear Fo15; have Fo15 := Lib.hid rFo15; clear rFo15
  have rFo29 := Fo29.out.below hb'; clear Fo29; have Fo29 := Lib.hid rFo29; clear rFo29
  have rFo31 := Fo31.out.below hb'; clear Fo31; have Fo31 := Lib.hid rFo31; clear rFo31
  have rFo32 := Fo32.out.below hb'; clear Fo32; have Fo32 := Lib.hid rFo32; clear rFo32
  have rFo33 := Fo33.out.below hb'; clear Fo33; have Fo33 := Lib.hid rFo33; clear rFo33
  have rFo34 := Fo34.out.below hb'; clear Fo34; have Fo34 := Lib.hid rFo34; clear rFo34
  have rFo48 := Fo48.out.below hb'; clear Fo48; have Fo48 := Lib.hid rFo48; clear rFo48
  have rB := below_chain B.out (by omega) hb'; clear B; have B := Lib.hid rB; clear rB
  have Fo51 := Lib.hid q15; clear q15
  clear hb hb'
  go_wp2_with fail
  refine (eqInt64S_t _ _ _ _ _ _ _ _ (by exact (Fo32.out.rdI)) (by exact (Fo51.out.rdI)) (by omega)).mono ?_
  rintro e w16 ⟨rfl, hb⟩
  have hb' : Below w15.heap.size w15 w16 := (by first | (with_reducible exact hb) | (with_reducible exact up1 hb) | (with_reducible exact up2 hb) | (with_reducible exact up3 hb) | (with_reducible exact up4 hb) | (with_reducible exact below_of_drew hb) | (with_reducible exact below_of_drew (up1 hb)))
  have z16 := hb'.size
  have c16_a0_0 : w16.cell? ⟨w.heap.size, 0, none⟩ = some (.int .i64 sy0) := keepc hb' c15_a0_0
  clear c15_a0_0 ac15_a0_0
  have c16_a0_1 : w16.cell? ⟨w.heap.size, 1, none⟩ = some (.int .i64 st0) := keepc hb' c15_a0_1
  clear c15_a0_1 ac15_a0_1
  have c16_a0_2 : w16.cell? ⟨w.heap.size, 2, none⟩ = some (.slice A0 n0 c0) := keepc hb' c15_a0_2
  clear c15_a0_2 ac15_a0_2
  have c16_o29_0 : w16.cell? ⟨w6.heap.size, 0, none⟩ = some (.int .i64 (rpR sy0 st0 xs0 x1 xs2 xs3 xs4).1.1) := keepc hb' c15_o29_0
  clear c15_o29_0 ac15_o29_0
  have c16_o29_1 : w16.cell? ⟨w6.heap.size, 1, none⟩ = some (.int .i64 (rpR sy0 st0 xs0 x1 xs2 xs3 xs4).1.2.1) := keepc hb' c15_o29_1
  clear c15_o29_1 ac15_o29_1
  have c16_o29_2 : w16.cell? ⟨w6.heap.size, 2, none⟩ = some (.int .i64 (rpR sy0 st0 xs0 x1 xs2 xs3 xs4).1.2.2.1) := keepc hb' c15_o29_2
  clear c15_o29_2 ac15_o29_2
  have c16_o29_3 : w16.cell? ⟨w6.heap.size, 3, none⟩ = some (.slice A16 n17 c18) := keepc hb' c15_o29_3
  clear c15_o29_3 ac15_o29_3
  have c16_o29_4 : w16.cell? ⟨w6.heap.size, 4, none⟩ = some (.slice B20 m21 d22) := keepc hb' c15_o29_4
  clear c15_o29_4 ac15_o29_4
  have c16_o29_5 : w16.cell? ⟨w6.heap.size, 5, none⟩ = some (.slice C24 k25 e26) := keepc hb' c15_o29_5
  clear c15_o29_5 ac15_o29_5
  have c16_o31_0 : w16.cell? ⟨w7.heap.size, 0, none⟩ = some (.int .i64 sy0) := keepc hb' c15_o31_0
  clear c15_o31_0 ac15_o31_0
  have c16_o31_1 : w16.cell? ⟨w7.heap.size, 1, none⟩ = some (.int .i64 st0) := keepc hb' c15_o31_1
  clear c15_o31_1 ac15_o31_1
  have c16_o31_2 : w16.cell? ⟨w7.heap.size, 2, none⟩ = some (.slice (some ⟨g030, 0, none⟩) n0 n0) := keepc hb' c15_o31_2
  clear c15_o31_2 ac15_o31_2
  have c16_o48_0 : w16.cell? ⟨w11.heap.size, 0, none⟩ = some (.int .i64 (rpR sy0 st0 xs0 x1 xs2 xs3 xs4).1.1) := keepc hb' c15_o48_0
  clear c15_o48_0 ac15_o48_0
  have c16_o48_1 : w16.cell? ⟨w11.heap.size, 1, none⟩ = some (.int .i64 (rpR sy0 st0 xs0 x1 xs2 xs3 xs4).1.2.1) := keepc hb' c15_o48_1
  clear c15_o48_1 ac15_o48_1
  have c16_o48_2 : w16.cell? ⟨w11.heap.size, 2, none⟩ = some (.int .i64 (rpR sy0 st0 xs0 x1 xs2 xs3 xs4).1.2.2.1) := keepc hb' c15_o48_2
  clear c15_o48_2 ac15_o48_2
  have c16_o48_3 : w16.cell? ⟨w11.heap.size, 3, none⟩ = some (.slice A35 n36 c37) := keepc hb' c15_o48_3
  clear c15_o48_3 ac15_o48_3
  have c16_o48_4 : w16.cell? ⟨w11.heap.size, 4, none⟩ = some (.slice B39 m40 d41) := keepc hb' c15_o48_4
  clear c15_o48_4 ac15_o48_4
  have c16_o48_5 : w16.cell? ⟨w11.heap.size, 5, none⟩ = some (.slice C43 k44 e45) := keepc hb' c15_o48_5
  clear c15_o48_5 ac15_o48_5
  have ac16_a0_0 := fun o => keepa o c16_a0_0
  have ac16_a0_1 := fun o => keepa o c16_a0_1
  have ac16_a0_2 := fun o => keepa o c16_a0_2
  have ac16_o29_0 := fun o => keepa o c16_o29_0
  have ac16_o29_1 := fun o => keepa o c16_o29_1
  have ac16_o29_2 := fun o => keepa o c16_o29_2
  have ac16_o29_3 := fun o => keepa o c16_o29_3
  have ac16_o29_4 := fun o => keepa o c16_o29_4
  have ac16_o29_5 := fun o => keepa o c16_o29_5
  have ac16_o31_0 := fun o => keepa o c16_o31_0
  have ac16_o31_1 := fun o => keepa o c16_o31_1
  have ac16_o31_2 := fun o => keepa o c16_o31_2
  have ac16_o48_0 := fun o => keepa o c16_o48_0
  have ac16_o48_1 := fun o => keepa o c16_o48_1
  have ac16_o48_2 := fun o => keepa o c16_o48_2
  have ac16_o48_3 := fun o => keepa o c16_o48_3
  have ac16_o48_4 := fun o => keepa o c16_o48_4
  have ac16_o48_5 := fun o => keepa o c16_o48_5
  have rP0 := P0.out.below hb'; clear P0; have P0 := Lib.hid rP0; clear rP0
  have rP2 := P2.out.below hb'; clear P2; have P2 := Lib.hid rP2; clear rP2
  have rP3 := P3.out.below hb'; clear P3; have P3 := Lib.hid rP3; clear rP3
  have rP4 := P4.out.below hb'; clear P4; have P4 := Lib.hid rP4; clear rP4
  have rFo12 := Fo12.out.below hb'; clear Fo12; have Fo12 := Lib.hid rFo12; clear rFo12
  have rFo13 := Fo13.out.below hb'; clear Fo13; have Fo13 := Lib.hid rFo13; clear rFo13
  have rFo14 := Fo14.out.below hb'; clear Fo14; have Fo14 := Lib.hid rFo14; clear rFo14
  have rFo15 := Fo15.out.below hb'; clear Fo15; have Fo15 := Lib.hid rFo15; clear rFo15
  have rFo29 := Fo29.out.below hb'; clear Fo29; have Fo29 := Lib.hid rFo29; clear rFo29
  have rFo31 := Fo31.out.below hb'; clear Fo31; have Fo31 := Lib.hid rFo31; clear rFo31
  have rFo32 := Fo32.out.below hb'; clear Fo32; have Fo32 := Lib.hid rFo32; clear rFo32
  have rFo33 := Fo33.out.below hb'; clear Fo33; have Fo33 := Lib.hid rFo33; clear rFo33
  have rFo34 := Fo34.out.below hb'; clear Fo34; have Fo34 := Lib.hid rFo34; clear rFo34
  have rFo48 := Fo48.out.below hb'; clear Fo48; have Fo48 := Lib.hid rFo48; clear rFo48
  have rFo51 := Fo51.out.below hb'; clear Fo51; have Fo51 := Lib.hid rFo51; clear rFo51
  have rB := below_chain B.out (by omega) hb'; clear B; have B := Lib.hid rB; clear rB
  clear hb hb'
  go_wp2_with fail
  refine (toInt64S_c _ _ _ _ _ (by exact (P3.out.1)) (by omega)).mono ?_
  rintro e w17 ⟨rfl, q17, hb⟩
  have hb' : Below w16.heap.size w16 w17 := (by first | (with_reducible exact hb) | (with_reducible exact up1 hb) | (with_reducible exact up2 hb) | (with_reducible exact up3 hb) | (with_reducible exact up4 hb) | (with_reducible exact below_of_drew hb) | (with_reducible exact below_of_drew (up1 hb)))
  have z17 := hb'.size
  have c17_a0_0 : w17.cell? ⟨w.heap.size, 0, none⟩ = some (.int .i64 sy0) := keepc hb' c16_a0_0
  clear c16_a0_0 ac16_a0_0
  have c17_a0_1 : w17.cell? ⟨w.heap.size, 1, none⟩ = some (.int .i64 st0) := keepc hb' c16_a0_1
  clear c16_a0_1 ac16_a0_1
  have c17_a0_2 : w17.cell? ⟨w.heap.size, 2, none⟩ = some (.slice A0 n0 c0) := keepc hb' c16_a0_2
  clear c16_a0_2 ac16_a0_2
  have c17_o29_0 : w17.cell? ⟨w6.heap.size, 0, none⟩ = some (.int .i64 (rpR sy0 st0 xs0 x1 xs2 xs3 xs4).1.1) := keepc hb' c16_o29_0
  clear c16_o29_0 ac16_o29_0
  have c17_o29_1 : w17.cell? ⟨w6.heap.size, 1, none⟩ = some (.int .i64 (rpR sy0 st0 xs0 x1 xs2 xs3 xs4).1.2.1) := keepc hb' c16_o29_1
  clear c16_o29_1 ac16_o29_1
  have c17_o29_2 : w17.cell? ⟨w6.heap.size, 2, none⟩ = some (.int .i64 (rpR sy0 st0 xs0 x1 xs2 xs3 xs4).1.2.2.1) := keepc hb' c16_o29_2
  clear c16_o29_2 ac16_o29_2
  have c17_o29_3 : w17.cell? ⟨w6.heap.size, 3, none⟩ = some (.slice A16 n17 c18) := keepc hb' c16_o29_3
  clear c16_o29_3 ac16_o29_3
  have c17_o29_4 : w17.cell? ⟨w6.heap.size, 4, none⟩ = some (.slice B20 m21 d22) := keepc hb' c16_o29_4
  clear c16_o29_4 ac16_o29_4
  have c17_o29_5 : w17.cell? ⟨w6.heap.size, 5, none⟩ = some (.slice C24 k25 e26) := keepc hb' c16_o29_5
  clear c16_o29_5 ac16_o29_5
  have c17_o31_0 : w17.cell? ⟨w7.heap.size, 0, none⟩ = some (.int .i64 sy0) := keepc hb' c16_o31_0
  clear c16_o31_0 ac16_o31_0
  have c17_o31_1 : w17.cell? ⟨w7.heap.size, 1, none⟩ = some (.int .i64 st0) := keepc hb' c16_o31_1
  clear c16_o31_1 ac16_o31_1
  have c17_o31_2 : w17.cell? ⟨w7.heap.size, 2, none⟩ = some (.slice (some ⟨g030, 0, none⟩) n0 n0) := keepc hb' c16_o31_2
  clear c16_o31_2 ac16_o31_2
  have c17_o48_0 : w17.cell? ⟨w11.heap.size, 0, none⟩ = some (.int .i64 (rpR sy0 st0 xs0 x1 xs2 xs3 xs4).1.1) := keepc hb' c16_o48_0
  clear c16_o48_0 ac16_o48_0
  have c17_o48_1 : w17.cell? ⟨w11.heap.size, 1, none⟩ = some (.int .i64 (rpR sy0 st0 xs0 x1 xs2 xs3 xs4).1.2.1) := keepc hb' c16_o48_1
  clear c16_o48_1 ac16_o48_1
  have c17_o48_2 : w17.cell? ⟨w11.heap.size, 2, none⟩ = some (.int .i64 (rpR sy0 st0 xs0 x1 xs2 xs3 xs4).1.2.2.1) := keepc hb' c16_o48_2
  clear c16_o48_2 ac16_o48_2
  have c17_o48_3 : w17.cell? ⟨w11.heap.size, 3, none⟩ = some (.slice A35 n36 c37) := keepc hb' c16_o48_3
  clear c16_o48_3 ac16_o48_3
  have c17_o48_4 : w17.cell? ⟨w11.heap.size, 4, none⟩ = some (.slice B39 m40 d41) := keepc hb' c16_o48_4
  clear c16_o48_4 ac16_o48_4
  have c17_o48_5 : w17.cell? ⟨w11.heap.size, 5, none⟩ = some (.slice C43 k44 e45) := keepc hb' c16_o48_5
  clear c16_o48_5 ac16_o48_5
  have ac17_a0_0 := fun o => keepa o c17_a0_0
  have ac17_a0_1 := fun o => keepa o c17_a0_1
  have ac17_a0_2 := fun o => keepa o c17_a0_2
  have ac17_o29_0 := fun o => keepa o c17_o29_0
  have ac17_o29_1 := fun o => keepa o c17_o29_1
  have ac17_o29_2 := fun o => keepa o c17_o29_2
  have ac17_o29_3 := fun o => keepa o c17_o29_3
  have ac17_o29_4 := fun o => keepa o c17_o29_4
  have ac17_o29_5 := fun o => keepa o c17_o29_5
  have ac17_o31_0 := fun o => keepa o c17_o31_0
  have ac17_o31_1 := fun o => keepa o c17_o31_1
  have ac17_o31_2 := fun o => keepa o c17_o31_2
  have ac17_o48_0 := fun o => keepa o c17_o48_0
  have ac17_o48_1 := fun o => keepa o c17_o48_1
  have ac17_o48_2 := fun o => keepa o c17_o48_2
  have ac17_o48_3 := fun o => keepa o c17_o48_3
  have ac17_o48_4 := fun o => keepa o c17_o48_4
  have ac17_o48_5 := fun o => keepa o c17_o48_5
  have rP0 := P0.out.below hb'; clear P0; have P0 := Lib.hid rP0; clear rP0
  have rP2 := P2.out.below hb'; clear P2; have P2 := Lib.hid rP2; clear rP2
  have rP3 := P3.out.below hb'; clear P3; have P3 := Lib.hid rP3; clear rP3
  have rP4 := P4.out.below hb'; clear P4; have P4 := Lib.hid rP4; clear rP4
  have rFo12 := Fo12.out.below hb'; clear Fo12; have Fo12 := Lib.hid rFo12; clear rFo12
  have rFo13 := Fo13.out.below hb'; clear Fo13; have Fo13 := Lib.hid rFo13; clear rFo13
  have rFo14 := Fo14.out.below hb'; clear Fo14; have Fo14 := Lib.hid rFo14; clear rFo14
  have rFo15 := Fo15.out.below hb'; clear Fo15; have Fo15 := Lib.hid rFo15; clear rFo15
  have rFo29 := Fo29.out.below hb'; clear Fo29; have Fo29 := Lib.hid rFo29; clear rFo29
  have rFo31 := Fo31.out.below hb'; clear Fo31; have Fo31 := Lib.hid rFo31; clear rFo31
  have rFo32 := Fo32.out.below hb'; clear Fo32; have Fo32 := Lib.hid rFo32; clear rFo32
  have rFo33 := Fo33.out.below hb'; clear Fo33; have Fo33 := Lib.hid rFo33; clear rFo33
  have rFo34 := Fo34.out.below hb'; clear Fo34; have Fo34 := Lib.hid rFo34; clear rFo34
  have rFo48 := Fo48.out.below hb'; clear Fo48; have Fo48 := Lib.hid rFo48; clear rFo48
  have rFo51 := Fo51.out.below hb'; clear Fo51; have Fo51 := Lib.hid rFo51; clear rFo51
  have rB := below_chain B.out (by omega) hb'; clear B; have B := Lib.hid rB; clear rB
  have Fo52 := Lib.hid q17; clear q17
  clear hb hb'
  go_wp2_with fail
  refine (eqInt64S_t _ _ _ _ _ _ _ _ (by exact (Fo33.out.rdI)) (by exact (Fo52.out.rdI)) (by omega)).mono ?_
  rintro e w18 ⟨rfl, hb⟩
  have hb' : Below w17.heap.size w17 w18 := (by first | (with_reducible exact hb) | (with_reducible exact up1 hb) | (with_reducible exact up2 hb) | (with_reducible exact up3 hb) | (with_reducible exact up4 hb) | (with_reducible exact below_of_drew hb) | (with_reducible exact below_of_drew (up1 hb)))
  have z18 := hb'.size
  have c18_a0_0 : w18.cell? ⟨w.heap.size, 0, none⟩ = some (.int .i64 sy0) := keepc hb' c17_a0_0
  clear c17_a0_0 ac17_a0_0
  have c18_a0_1 : w18.cell? ⟨w.heap.size, 1, none⟩ = some (.int .i64 st0) := keepc hb' c17_a0_1
  clear c17_a0_1 ac17_a0_1
  have c18_a0_2 : w18.cell? ⟨w.heap.size, 2, none⟩ = some (.slice A0 n0 c0) := keepc hb' c17_a0_2
  clear c17_a0_2 ac17_a0_2
  have c18_o29_0 : w18.cell? ⟨w6.heap.size, 0, none⟩ = some (.int .i64 (rpR sy0 st0 xs0 x1 xs2 xs3 xs4).1.1) := keepc hb' c17_o29_0
  clear c17_o29_0 ac17_o29_0
  have c18_o29_1 : w18.cell? ⟨w6.heap.size, 1, none⟩ = some (.int .i64 (rpR sy0 st0 xs0 x1 xs2 xs3 xs4).1.2.1) := keepc hb' c17_o29_1
  clear c17_o29_1 ac17_o29_1
  have c18_o29_2 : w18.cell? ⟨w6.heap.size, 2, none⟩ = some (.int .i64 (rpR sy0 st0 xs0 x1 xs2 xs3 xs4).1.2.2.1) := keepc hb' c17_o29_2
  clear c17_o29_2 ac17_o29_2
  have c18_o29_3 : w18.cell? ⟨w6.heap.size, 3, none⟩ = some (.slice A16 n17 c18) := keepc hb' c17_o29_3
  clear c17_o29_3 ac17_o29_3
  have c18_o29_4 : w18.cell? ⟨w6.heap.size, 4, none⟩ = some (.slice B20 m21 d22) := keepc hb' c17_o29_4
  clear c17_o29_4 ac17_o29_4
  have c18_o29_5 : w18.cell? ⟨w6.heap.size, 5, none⟩ = some (.slice C24 k25 e26) := keepc hb' c17_o29_5
  clear c17_o29_5 ac17_o29_5
  have c18_o31_0 : w18.cell? ⟨w7.heap.size, 0, none⟩ = some (.int .i64 sy0) := keepc hb' c17_o31_0
  clear c17_o31_0 ac17_o31_0
  have c18_o31_1 : w18.cell? ⟨w7.heap.size, 1, none⟩ = some (.int .i64 st0) := keepc hb' c17_o31_1
  clear c17_o31_1 ac17_o31_1
  have c18_o31_2 : w18.cell? ⟨w7.heap.size, 2, none⟩ = some (.slice (some ⟨g030, 0, none⟩) n0 n0) := keepc hb' c17_o31_2
  clear c17_o31_2 ac17_o31_2
  have c18_o48_0 : w18.cell? ⟨w11.heap.size, 0, none⟩ = some (.int .i64 (rpR sy0 st0 xs0 x1 xs2 xs3 xs4).1.1) := keepc hb' c17_o48_0
  clear c17_o48_0 ac17_o48_0
  have c18_o48_1 : w18.cell? ⟨w11.heap.size, 1, none⟩ = some (.int .i64 (rpR sy0 st0 xs0 x1 xs2 xs3 xs4).1.2.1) := keepc hb' c17_o48_1
  clear c17_o48_1 ac17_o48_1
  have c18_o48_2 : w18.cell? ⟨w11.heap.size, 2, none⟩ = some (.int .i64 (rpR sy0 st0 xs0 x1 xs2 xs3 xs4).1.2.2.1) := keepc hb' c17_o48_2
  clear c17_o48_2 ac17_o48_2
  have c18_o48_3 : w18.cell? ⟨w11.heap.size, 3, none⟩ = some (.slice A35 n36 c37) := keepc hb' c17_o48_3
  clear c17_o48_3 ac17_o48_3
  have c18_o48_4 : w18.cell? ⟨w11.heap.size, 4, none⟩ = some (.slice B39 m40 d41) := keepc hb' c17_o48_4
  clear c17_o48_4 ac17_o48_4
  have c18_o48_5 : w18.cell? ⟨w11.heap.size, 5, none⟩ = some (.slice C43 k44 e45) := keepc hb' c17_o48_5
  clear c17_o48_5 ac17_o48_5
  have ac18_a0_0 := fun o => keepa o c18_a0_0
  have ac18_a0_1 := fun o => keepa o c18_a0_1
  have ac18_a0_2 := fun o => keepa o c18_a0_2
  have ac18_o29_0 := fun o => keepa o c18_o29_0
  have ac18_o29_1 := fun o => keepa o c18_o29_1
  have ac18_o29_2 := fun o => keepa o c18_o29_2
  have ac18_o29_3 := fun o => keepa o c18_o29_3
  have ac18_o29_4 := fun o => keepa o c18_o29_4
  have ac18_o29_5 := fun o => keepa o c18_o29_5
  have ac18_o31_0 := fun o => keepa o c18_o31_0
  have ac18_o31_1 := fun o => keepa o c18_o31_1
  have ac18_o31_2 := fun o => keepa o c18_o31_2
  have ac18_o48_0 := fun o => keepa o c18_o48_0
  have ac18_o48_1 := fun o => keepa o c18_o48_1
  have ac18_o48_2 := fun o => keepa o c18_o48_2
  have ac18_o48_3 := fun o => keepa o c18_o48_3
  have ac18_o48_4 := fun o => keepa o c18_o48_4
  have ac18_o48_5 := fun o => keepa o c18_o48_5
  have rP0 := P0.out.below hb'; clear P0; have P0 := Lib.hid rP0; clear rP0
  have rP2 := P2.out.below hb'; clear P2; have P2 := Lib.hid rP2; clear rP2
  have rP3 := P3.out.below hb'; clear P3; have P3 := Lib.hid rP3; clear rP3
  have rP4 := P4.out.below hb'; clear P4; have P4 := Lib.hid rP4; clear rP4
  have rFo12 := Fo12.out.below hb'; clear Fo12; have Fo12 := Lib.hid rFo12; clear rFo12
  have rFo13 := Fo13.out.below hb'; clear Fo13; have Fo13 := Lib.hid rFo13; clear rFo13
  have rFo14 := Fo14.out.below hb'; clear Fo14; have Fo14 := Lib.hid rFo14; clear rFo14
  have rFo15 := Fo15.out.below hb'; clear Fo15; have Fo15 := Lib.hid rFo15; clear rFo15
  have rFo29 := Fo29.out.below hb'; clear Fo29; have Fo29 := Lib.hid rFo29; clear rFo29
  have rFo31 := Fo31.out.below hb'; clear Fo31; have Fo31 := Lib.hid rFo31; clear rFo31
  have rFo32 := Fo32.out.below hb'; clear Fo32; have Fo32 := Lib.hid rFo32; clear rFo32
  have rFo33 := Fo33.out.below hb'; clear Fo33; have Fo33 := Lib.hid rFo33; clear rFo33
  have rFo34 := Fo34.out.below hb'; clear Fo34; have Fo34 := Lib.hid rFo34; clear rFo34
  have rFo48 := Fo48.out.below hb'; clear Fo48; have Fo48 := Lib.hid rFo48; clear rFo48
  have rFo51 := Fo51.out.below hb'; clear Fo51; have Fo51 := Lib.hid rFo51; clear rFo51
  have rFo52 := Fo52.out.below hb'; clear Fo52; have Fo52 := Lib.hid rFo52; clear rFo52
  have rB := below_chain B.out (by omega) hb'; clear B; have B := Lib.hid rB; clear rB
  clear hb hb'
  go_wp2_with fail
  refine (toInt64S_c _ _ _ _ _ (by exact (P4.out.1)) (by omega)).mono ?_
  rintro e w19 ⟨rfl, q19, hb⟩
  have hb' : Below w18.heap.size w18 w19 := (by first | (with_reducible exact hb) | (with_reducible exact up1 hb) | (with_reducible exact up2 hb) | (with_reducible exact up3 hb) | (with_reducible exact up4 hb) | (with_reducible exact below_of_drew hb) | (with_reducible exact below_of_drew (up1 hb)))
  have z19 := hb'.size
  have c19_a0_0 : w19.cell? ⟨w.heap.size, 0, none⟩ = some (.int .i64 sy0) := keepc hb' c18_a0_0
  clear c18_a0_0 ac18_a0_0
  have c19_a0_1 : w19.cell? ⟨w.heap.size, 1, none⟩ = some (.int .i64 st0) := keepc hb' c18_a0_1
  clear c18_a0_1 ac18_a0_1
  have c19_a0_2 : w19.cell? ⟨w.heap.size, 2, none⟩ = some (.slice A0 n0 c0) := keepc hb' c18_a0_2
  clear c18_a0_2 ac18_a0_2
  have c19_o29_0 : w19.cell? ⟨w6.heap.size, 0, none⟩ = some (.int .i64 (rpR sy0 st0 xs0 x1 xs2 xs3 xs4).1.1) := keepc hb' c18_o29_0
  clear c18_o29_0 ac18_o29_0
  have c19_o29_1 : w19.cell? ⟨w6.heap.size, 1, none⟩ = some (.int .i64 (rpR sy0 st0 xs0 x1 xs2 xs3 xs4).1.2.1) := keepc hb' c18_o29_1
  clear c18_o29_1 ac18_o29_1
  have c19_o29_2 : w19.cell? ⟨w6.heap.size, 2, none⟩ = some (.int .i64 (rpR sy0 st0 xs0 x1 xs2 xs3 xs4).1.2.2.1) := keepc hb' c18_o29_2
  clear c18_o29_2 ac18_o29_2
  have c19_o29_3 : w19.cell? ⟨w6.heap.size, 3, none⟩ = some (.slice A16 n17 c18) := keepc hb' c18_o29_3
  clear c18_o29_3 ac18_o29_3
  have c19_o29_4 : w19.cell? ⟨w6.heap.size, 4, none⟩ = some (.slice B20 m21 d22) := keepc hb' c18_o29_4
  clear c18_o29_4 ac18_o29_4
  have c19_o29_5 : w19.cell? ⟨w6.heap.size, 5, none⟩ = some (.slice C24 k25 e26) := keepc hb' c18_o29_5
  clear c18_o29_5 ac18_o29_5
  have c19_o31_0 : w19.cell? ⟨w7.heap.size, 0, none⟩ = some (.int .i64 sy0) := keepc hb' c18_o31_0
  clear c18_o31_0 ac18_o31_0
  have c19_o31_1 : w19.cell? ⟨w7.heap.size, 1, none⟩ = some (.int .i64 st0) := keepc hb' c18_o31_1
  clear c18_o31_1 ac18_o31_1
  have c19_o31_2 : w19.cell? ⟨w7.heap.size, 2, none⟩ = some (.slice (some ⟨g030, 0, none⟩) n0 n0) := keepc hb' c18_o31_2
  clear c18_o31_2 ac18_o31_2
  have c19_o48_0 : w19.cell? ⟨w11.heap.size, 0, none⟩ = some (.int .i64 (rpR sy0 st0 xs0 x1 xs2 xs3 xs4).1.1) := keepc hb' c18_o48_0
  clear c18_o48_0 ac18_o48_0
  have c19_o48_1 : w19.cell? ⟨w11.heap.size, 1, none⟩ = some (.int .i64 (rpR sy0 st0 xs0 x1 xs2 xs3 xs4).1.2.1) := keepc hb' c18_o48_1
  clear c18_o48_1 ac18_o48_1
  have c19_o48_2 : w19.cell? ⟨w11.heap.size, 2, none⟩ = some (.int .i64 (rpR sy0 st0 xs0 x1 xs2 xs3 xs4).1.2.2.1) := keepc hb' c18_o48_2
  clear c18_o48_2 ac18_o48_2
  have c19_o48_3 : w19.cell? ⟨w11.heap.size, 3, none⟩ = some (.slice A35 n36 c37) := keepc hb' c18_o48_3
  clear c18_o48_3 ac18_o48_3
  have c19_o48_4 : w19.cell? ⟨w11.heap.size, 4, none⟩ = some (.slice B39 m40 d41) := keepc hb' c18_o48_4
  clear c18_o48_4 ac18_o48_4
  have c19_o48_5 : w19.cell? ⟨w11.heap.size, 5, none⟩ = some (.slice C43 k44 e45) := keepc hb' c18_o48_5
  clear c18_o48_5 ac18_o48_5
  have ac19_a0_0 := fun o => keepa o c19_a0_0
  have ac19_a0_1 := fun o => keepa o c19_a0_1
  have ac19_a0_2 := fun o => keepa o c19_a0_2
  have ac19_o29_0 := fun o => keepa o c19_o29_0
  have ac19_o29_1 := fun o => keepa o c19_o29_1
  have ac19_o29_2 := fun o => keepa o c19_o29_2
  have ac19_o29_3 := fun o => keepa o c19_o29_3
  have ac19_o29_4 := fun o => keepa o c19_o29_4
  have ac19_o29_5 := fun o => keepa o c19_o29_5
  have ac19_o31_0 := fun o => keepa o c19_o31_0
  have ac19_o31_1 := fun o => keepa o c19_o31_1
  have ac19_o31_2 := fun o => keepa o c19_o31_2
  have ac19_o48_0 := fun o => keepa o c19_o48_0
  have ac19_o48_1 := fun o => keepa o c19_o48_1
  have ac19_o48_2 := fun o => keepa o c19_o48_2
  have ac19_o48_3 := fun o => keepa o c19_o48_3
  have ac19_o48_4 := fun o => keepa o c19_o48_4
  have ac19_o48_5 := fun o => keepa o c19_o48_5
  have rP0 := P0.out.below hb'; clear P0; have P0 := Lib.hid rP0; clear rP0
  have rP2 := P2.out.below hb'; clear P2; have P2 := Lib.hid rP2; clear rP2
  have rP3 := P3.out.below hb'; clear P3; have P3 := Lib.hid rP3; clear rP3
  have rP4 := P4.out.below hb'; clear P4; have P4 := Lib.hid rP4; clear rP4
  have rFo12 := Fo12.out.below hb'; clear Fo12; have Fo12 := Lib.hid rFo12; clear rFo12
  have rFo13 := Fo13.out.below hb'; clear Fo13; have Fo13 := Lib.hid rFo13; clear rFo13
  have rFo14 := Fo14.out.below hb'; clear Fo14; have Fo14 := Lib.hid rFo14; clear rFo14
  have rFo15 := Fo15.out.below hb'; clear Fo15; have Fo15 := Lib.hid rFo15; clear rFo15
  have rFo29 := Fo29.out.below hb'; clear Fo29; have Fo29 := Lib.hid rFo29; clear rFo29
  have rFo31 := Fo31.out.below hb'; clear Fo31; have Fo31 := Lib.hid rFo31; clear rFo31
  have rFo32 := Fo32.out.below hb'; clear Fo32; have Fo32 := Lib.hid rFo32; clear rFo32
  have rFo33 := Fo33.out.below hb'; clear Fo33; have Fo33 := Lib.hid rFo33; clear rFo33
  have rFo34 := Fo34.out.below hb'; clear Fo34; have Fo34 := Lib.hid rFo34; clear rFo34
  have rFo48 := Fo48.out.below hb'; clear Fo48; have Fo48 := Lib.hid rFo48; clear rFo48
  have rFo51 := Fo51.out.below hb'; clear Fo51; have Fo51 := Lib.hid rFo51; clear rFo51
  have rFo52 := Fo52.out.below hb'; clear Fo52; have Fo52 := Lib.hid rFo52; clear rFo52
  have rB := below_chain B.out (by omega) hb'; clear B; have B := Lib.hid rB; clear rB
  have Fo53 := Lib.hid q19; clear q19
  clear hb hb'
  go_wp2_with fail
  refine (eqInt64S_t _ _ _ _ _ _ _ _ (by exact (Fo34.out.rdI)) (by exact (Fo53.out.rdI)) (by omega)).mono ?_
  rintro e w20 ⟨rfl, hb⟩
  have hb' : Below w19.heap.size w19 w20 := (by first | (with_reducible exact hb) | (with_reducible exact up1 hb) | (with_reducible exact up2 hb) | (with_reducible exact up3 hb) | (with_reducible exact up4 hb) | (with_reducible exact below_of_drew hb) | (with_reducible exact below_of_drew (up1 hb)))
  have z20 := hb'.size
  have c20_a0_0 : w20.cell? ⟨w.heap.size, 0, none⟩ = some (.int .i64 sy0) := keepc hb' c19_a0_0
  clear c19_a0_0 ac19_a0_0
  have c20_a0_1 : w20.cell? ⟨w.heap.size, 1, none⟩ = some (.int .i64 st0) := keepc hb' c19_a0_1
  clear c19_a0_1 ac19_a0_1
  have c20_a0_2 : w20.cell? ⟨w.heap.size, 2, none⟩ = some (.slice A0 n0 c0) := keepc hb' c19_a0_2
  clear c19_a0_2 ac19_a0_2
  have c20_o29_0 : w20.cell? ⟨w6.heap.size, 0, none⟩ = some (.int .i64 (rpR sy0 st0 xs0 x1 xs2 xs3 xs4).1.1) := keepc hb' c19_o29_0
  clear c19_o29_0 ac19_o29_0
  have c20_o29_1 : w20.cell? ⟨w6.heap.size, 1, none⟩ = some (.int .i64 (rpR sy0 st0 xs0 x1 xs2 xs3 xs4).1.2.1) := keepc hb' c19_o29_1
  clear c19_o29_1 ac19_o29_1
  have c20_o29_2 : w20.cell? ⟨w6.heap.size, 2, none⟩ = some (.int .i64 (rpR sy0 st0 xs0 x1 xs2 xs3 xs4).1.2.2.1) := keepc hb' c19_o29_2
  clear c19_o29_2 ac19_o29_2
  have c20_o29_3 : w20.cell? ⟨w6.heap.size, 3, none⟩ = some (.slice A16 n17 c18) := keepc hb' c19_o29_3
  clear c19_o29_3 ac19_o29_3
  have c20_o29_4 : w20.cell? ⟨w6.heap.size, 4, none⟩ = some (.slice B20 m21 d22) := keepc hb' c19_o29_4
  clear c19_o29_4 ac19_o29_4
  have c20_o29_5 : w20.cell? ⟨w6.heap.size, 5, none⟩ = some (.slice C24 k25 e26) := keepc hb' c19_o29_5
  clear c19_o29_5 ac19_o29_5
  have c20_o31_0 : w20.cell? ⟨w7.heap.size, 0, none⟩ = some (.int .i64 sy0) := keepc hb' c19_o31_0
  clear c19_o31_0 ac19_o31_0
  have c20_o31_1 : w20.cell? ⟨w7.heap.size, 1, none⟩ = some (.int .i64 st0) := keepc hb' c19_o31_1
  clear c19_o31_1 ac19_o31_1
  have c20_o31_2 : w20.cell? ⟨w7.heap.size, 2, none⟩ = some (.slice (some ⟨g030, 0, none⟩) n0 n0) := keepc hb' c19_o31_2
  clear c19_o31_2 ac19_o31_2
  have c20_o48_0 : w20.cell? ⟨w11.heap.size, 0, none⟩ = some (.int .i64 (rpR sy0 st0 xs0 x1 xs2 xs3 xs4).1.1) := keepc hb' c19_o48_0
  clear c19_o48_0 ac19_o48_0
  have c20_o48_1 : w20.cell? ⟨w11.heap.size, 1, none⟩ = some (.int .i64 (rpR sy0 st0 xs0 x1 xs2 xs3 xs4).1.2.1) := keepc hb' c19_o48_1
  clear c19_o48_1 ac19_o48_1
  have c20_o48_2 : w20.cell? ⟨w11.heap.size, 2, none⟩ = some (.int .i64 (rpR sy0 st0 xs0 x1 xs2 xs3 xs4).1.2.2.1) := keepc hb' c19_o48_2
  clear c19_o48_2 ac19_o48_2
  have c20_o48_3 : w20.cell? ⟨w11.heap.size, 3, none⟩ = some (.slice A35 n36 c37) := keepc hb' c19_o48_3
  clear c19_o48_3 ac19_o48_3
  have c20_o48_4 : w20.cell? ⟨w11.heap.size, 4, none⟩ = some (.slice B39 m40 d41) := keepc hb' c19_o48_4
  clear c19_o48_4 ac19_o48_4
  have c20_o48_5 : w20.cell? ⟨w11.heap.size, 5, none⟩ = some (.slice C43 k44 e45) := keepc hb' c19_o48_5
  clear c19_o48_5 ac19_o48_5
  have ac20_a0_0 := fun o => keepa o c20_a0_0
  have ac20_a0_1 := fun o => keepa o c20_a0_1
  have ac20_a0_2 := fun o => keepa o c20_a0_2
  have ac20_o29_0 := fun o => keepa o c20_o29_0
  have ac20_o29_1 := fun o => keepa o c20_o29_1
  have ac20_o29_2 := fun o => keepa o c20_o29_2
  have ac20_o29_3 := fun o => keepa o c20_o29_3
  have ac20_o29_4 := fun o => keepa o c20_o29_4
  have ac20_o29_5 := fun o => keepa o c20_o29_5
  have ac20_o31_0 := fun o => keepa o c20_o31_0
  have ac20_o31_1 := fun o => keepa o c20_o31_1
  have ac20_o31_2 := fun o => keepa o c20_o31_2
  have ac20_o48_0 := fun o => keepa o c20_o48_0
  have ac20_o48_1 := fun o => keepa o c20_o48_1
  have ac20_o48_2 := fun o => keepa o c20_o48_2
  have ac20_o48_3 := fun o => keepa o c20_o48_3
  have ac20_o48_4 := fun o => keepa o c20_o48_4
  have ac20_o48_5 := fun o => keepa o c20_o48_5
  have rP0 := P0.out.below hb'; clear P0; have P0 := Lib.hid rP0; clear rP0
  have rP2 := P2.out.below hb'; clear P2; have P2 := Lib.hid rP2; clear rP2
  have rP3 := P3.out.below hb'; clear P3; have P3 := Lib.hid rP3; clear rP3
  have rP4 := P4.out.below hb'; clear P4; have P4 := Lib.hid rP4; clear rP4
  have rFo12 := Fo12.out.below hb'; clear Fo12; have Fo12 := Lib.hid rFo12; clear rFo12
  have rFo13 := Fo13.out.below hb'; clear Fo13; have Fo13 := Lib.hid rFo13; clear rFo13
  have rFo14 := Fo14.out.below hb'; clear Fo14; have Fo14 := Lib.hid rFo14; clear rFo14
  have rFo15 := Fo15.out.below hb'; clear Fo15; have Fo15 := Lib.hid rFo15; clear rFo15
  have rFo29 := Fo29.out.below hb'; clear Fo29; have Fo29 := Lib.hid rFo29; clear rFo29
  have rFo31 := Fo31.out.below hb'; clear Fo31; have Fo31 := Lib.hid rFo31; clear rFo31
  have rFo32 := Fo32.out.below hb'; clear Fo32; have Fo32 := Lib.hid rFo32; clear rFo32
  have rFo33 := Fo33.out.below hb'; clear Fo33; have Fo33 := Lib.hid rFo33; clear rFo33
  have rFo34 := Fo34.out.below hb'; clear Fo34; have Fo34 := Lib.hid rFo34; clear rFo34
  have rFo48 := Fo48.out.below hb'; clear Fo48; have Fo48 := Lib.hid rFo48; clear rFo48
  have rFo51 := Fo51.out.below hb'; clear Fo51; have Fo51 := Lib.hid rFo51; clear rFo51
  have rFo52 := Fo52.out.below hb'; clear Fo52; have Fo52 := Lib.hid rFo52; clear rFo52
  have rFo53 := Fo53.out.below hb'; clear Fo53; have Fo53 := Lib.hid rFo53; clear rFo53
  have rB := below_chain B.out (by omega) hb'; clear B; have B := Lib.hid rB; clear rB
  clear hb hb'
  go_wp2_with fail
  refine (markMachine_c _ _ _ _ _ _ _ _ _ _ (by exact (Fo31.out)) (by omega) (by omega) (by omega)).mono ?_
  rintro e w21 ⟨rfl, q21, hk⟩
  have hk' : KeepR (w6.heap.size + 1) w7.heap.size w20 w21 := (by first | (with_reducible exact hk) | (with_reducible exact hk.up1) | (with_reducible exact hk.up1.up1))
  have z21 := hk'.size
  have c21_a0_0 : w21.cell? ⟨w.heap.size, 0, none⟩ = some (.int .i64 sy0) := hk'.cell (by simp <;> omega) c20_a0_0
  clear c20_a0_0 ac20_a0_0
  have c21_a0_1 : w21.cell? ⟨w.heap.size, 1, none⟩ = some (.int .i64 st0) := hk'.cell (by simp <;> omega) c20_a0_1
  clear c20_a0_1 ac20_a0_1
  have c21_a0_2 : w21.cell? ⟨w.heap.size, 2, none⟩ = some (.slice A0 n0 c0) := hk'.cell (by simp <;> omega) c20_a0_2
  clear c20_a0_2 ac20_a0_2
  have c21_o29_0 : w21.cell? ⟨w6.heap.size, 0, none⟩ = some (.int .i64 (rpR sy0 st0 xs0 x1 xs2 xs3 xs4).1.1) := hk'.cell (by simp <;> omega) c20_o29_0
  clear c20_o29_0 ac20_o29_0
  have c21_o29_1 : w21.cell? ⟨w6.heap.size, 1, none⟩ = some (.int .i64 (rpR sy0 st0 xs0 x1 xs2 xs3 xs4).1.2.1) := hk'.cell (by simp <;> omega) c20_o29_1
  clear c20_o29_1 ac20_o29_1
  have c21_o29_2 : w21.cell? ⟨w6.heap.size, 2, none⟩ = some (.int .i64 (rpR sy0 st0 xs0 x1 xs2 xs3 xs4).1.2.2.1) := hk'.cell (by simp <;> omega) c20_o29_2
  clear c20_o29_2 ac20_o29_2
  have c21_o29_3 : w21.cell? ⟨w6.heap.size, 3, none⟩ = some (.slice A16 n17 c18) := hk'.cell (by simp <;> omega) c20_o29_3
  clear c20_o29_3 ac20_o29_3
  have c21_o29_4 : w21.cell? ⟨w6.heap.size, 4, none⟩ = some (.slice B20 m21 d22) := hk'.cell (by simp <;> omega) c20_o29_4
  clear c20_o29_4 ac20_o29_4
  have c21_o29_5 : w21.cell? ⟨w6.heap.size, 5, none⟩ = some (.slice C24 k25 e26) := hk'.cell (by simp <;> omega) c20_o29_5
  clear c20_o29_5 ac20_o29_5
  have c21_o31_0 : w21.cell? ⟨w7.heap.size, 0, none⟩ = some (.int .i64 sy0) := hk'.cell (by simp <;> omega) c20_o31_0
  clear c20_o31_0 ac20_o31_0
  have c21_o31_1 : w21.cell? ⟨w7.heap.size, 1, none⟩ = some (.int .i64 st0) := hk'.cell (by simp <;> omega) c20_o31_1
  clear c20_o31_1 ac20_o31_1
  have c21_o31_2 : w21.cell? ⟨w7.heap.size, 2, none⟩ = some (.slice (some ⟨g030, 0, none⟩) n0 n0) := hk'.cell (by simp <;> omega) c20_o31_2
  clear c20_o31_2 ac20_o31_2
  have c21_o48_0 : w21.cell? ⟨w11.heap.size, 0, none⟩ = some (.int .i64 (rpR sy0 st0 xs0 x1 xs2 xs3 xs4).1.1) := hk'.cell (by simp <;> omega) c20_o48_0
  clear c20_o48_0 ac20_o48_0
  have c21_o48_1 : w21.cell? ⟨w11.heap.size, 1, none⟩ = some (.int .i64 (rpR sy0 st0 xs0 x1 xs2 xs3 xs4).1.2.1) := hk'.cell (by simp <;> omega) c20_o48_1
  clear c20_o48_1 ac20_o48_1
  have c21_o48_2 : w21.cell? ⟨w11.heap.size, 2, none⟩ = some (.int .i64 (rpR sy0 st0 xs0 x1 xs2 xs3 xs4).1.2.2.1) := hk'.cell (by simp <;> omega) c20_o48_2
  clear c20_o48_2 ac20_o48_2
  have c21_o48_3 : w21.cell? ⟨w11.heap.size, 3, none⟩ = some (.slice A35 n36 c37) := hk'.cell (by simp <;> omega) c20_o48_3
  clear c20_o48_3 ac20_o48_3
  have c21_o48_4 : w21.cell? ⟨w11.heap.size, 4, none⟩ = some (.slice B39 m40 d41) := hk'.cell (by simp <;> omega) c20_o48_4
  clear c20_o48_4 ac20_o48_4
  have c21_o48_5 : w21.cell? ⟨w11.heap.size, 5, none⟩ = some (.slice C43 k44 e45) := hk'.cell (by simp <;> omega) c20_o48_5
  clear c20_o48_5 ac20_o48_5
  have ac21_a0_0 := fun o => keepa o c21_a0_0
  have ac21_a0_1 := fun o => keepa o c21_a0_1
  have ac21_a0_2 := fun o => keepa o c21_a0_2
  have ac21_o29_0 := fun o => keepa o c21_o29_0
  have ac21_o29_1 := fun o => keepa o c21_o29_1
  have ac21_o29_2 := fun o => keepa o c21_o29_2
  have ac21_o29_3 := fun o => keepa o c21_o29_3
  have ac21_o29_4 := fun o => keepa o c21_o29_4
  have ac21_o29_5 := fun o => keepa o c21_o29_5
  have ac21_o31_0 := fun o => keepa o c21_o31_0
  have ac21_o31_1 := fun o => keepa o c21_o31_1
  have ac21_o31_2 := fun o => keepa o c21_o31_2
  have ac21_o48_0 := fun o => keepa o c21_o48_0
  have ac21_o48_1 := fun o => keepa o c21_o48_1
  have ac21_o48_2 := fun o => keepa o c21_o48_2
  have ac21_o48_3 := fun o => keepa o c21_o48_3
  have ac21_o48_4 := fun o => keepa o c21_o48_4
  have ac21_o48_5 := fun o => keepa o c21_o48_5
  have rP0 := P0.out.keep hk' (by omega); clear P0; have P0 := Lib.hid rP0; clear rP0
  have rP2 := P2.out.keep hk' (by omega); clear P2; have P2 := Lib.hid rP2; clear rP2
  have rP3 := P3.out.keep hk' (by omega); clear P3; have P3 := Lib.hid rP3; clear rP3
  have rP4 := P4.out.keep hk' (by omega); clear P4; have P4 := Lib.hid rP4; clear rP4
  have rFo12 := Fo12.out.keep hk' (by omega); clear Fo12; have Fo12 := Lib.hid rFo12; clear rFo12
  have rFo13 := Fo13.out.keep hk' (by omega); clear Fo13; have Fo13 := Lib.hid rFo13; clear rFo13
  have rFo14 := Fo14.out.keep hk' (by omega); clear Fo14; have Fo14 := Lib.hid rFo14; clear rFo14
  have rFo15 := Fo15.out.keep hk' (by omega); clear Fo15; have Fo15 := Lib.hid rFo15; clear rFo15
  have rFo29 := Fo29.out.keep hk' (by omega); clear Fo29; have Fo29 := Lib.hid rFo29; clear rFo29
  have rFo31 := q21; clear Fo31; have Fo31 := Lib.hid rFo31; clear rFo31 q21
  have rFo32 := Fo32.out.keep hk' (by omega); clear Fo32; have Fo32 := Lib.hid rFo32; clear rFo32
  have rFo33 := Fo33.out.keep hk' (by omega); clear Fo33; have Fo33 := Lib.hid rFo33; clear rFo33
  have rFo34 := Fo34.out.keep hk' (by omega); clear Fo34; have Fo34 := Lib.hid rFo34; clear rFo34
  have rFo48 := Fo48.out.keep hk' (by omega); clear Fo48; have Fo48 := Lib.hid rFo48; clear rFo48
  have rFo51 := Fo51.out.keep hk' (by omega); clear Fo51; have Fo51 := Lib.hid rFo51; clear rFo51
  have rFo52 := Fo52.out.keep hk' (by omega); clear Fo52; have Fo52 := Lib.hid rFo52; clear rFo52
  have rFo53 := Fo53.out.keep hk' (by omega); clear Fo53; have Fo53 := Lib.hid rFo53; clear rFo53
  have rB := B.out.trans (hk'.below (B := w.heap.size) (by omega) (by omega)); clear B; have B := Lib.hid rB; clear rB
  clear hk hk'
  go_wp2_with fail
  refine (markInt64S_c _ _ _ _ _ _ _ _ (by exact (Fo32.out)) (by omega) (by omega) (by omega)).mono ?_
  rintro e w22 ⟨rfl, q22, hk⟩
  have hk' : KeepR (w7.heap.size + 1) w8.heap.size w21 w22 := (by first | (with_reducible exact hk) | (with_reducible exact hk.up1) | (with_reducible exact hk.up1.up1))
  have z22 := hk'.size
  have c22_a0_0 : w22.cell? ⟨w.heap.size, 0, none⟩ = some (.int .i64 sy0) := hk'.cell (by simp <;> omega) c21_a0_0
  clear c21_a0_0 ac21_a0_0
  have c22_a0_1 : w22.cell? ⟨w.heap.size, 1, none⟩ = some (.int .i64 st0) := hk'.cell (by simp <;> omega) c21_a0_1
  clear c21_a0_1 ac21_a0_1
  have c22_a0_2 : w22.cell? ⟨w.heap.size, 2, none⟩ = some (.slice A0 n0 c0) := hk'.cell (by simp <;> omega) c21_a0_2
  clear c21_a0_2 ac21_a0_2
  have c22_o29_0 : w22.cell? ⟨w6.heap.size, 0, none⟩ = some (.int .i64 (rpR sy0 st0 xs0 x1 xs2 xs3 xs4).1.1) := hk'.cell (by simp <;> omega) c21_o29_0
  clear c21_o29_0 ac21_o29_0
  have c22_o29_1 : w22.cell? ⟨w6.heap.size, 1, none⟩ = some (.int .i64 (rpR sy0 st0 xs0 x1 xs2 xs3 xs4).1.2.1) := hk'.cell (by simp <;> omega) c21_o29_1
  clear c21_o29_1 ac21_o29_1
  have c22_o29_2 : w22.cell? ⟨w6.heap.size, 2, none⟩ = some (.int .i64 (rpR sy0 st0 xs0 x1 xs2 xs3 xs4).1.2.2.1) := hk'.cell (by simp <;> omega) c21_o29_2
  clear c21_o29_2 ac21_o29_2
  have c22_o29_3 : w22.cell? ⟨w6.heap.size, 3, none⟩ = some (.slice A16 n17 c18) := hk'.cell (by simp <;> omega) c21_o29_3
  clear c21_o29_3 ac21_o29_3
  have c22_o29_4 : w22.cell? ⟨w6.heap.size, 4, none⟩ = some (.slice B20 m21 d22) := hk'.cell (by simp <;> omega) c21_o29_4
  clear c21_o29_4 ac21_o29_4
  have c22_o29_5 : w22.cell? ⟨w6.heap.size, 5, none⟩ = some (.slice C24 k25 e26) := hk'.cell (by simp <;> omega) c21_o29_5
  clear c21_o29_5 ac21_o29_5
  have c22_o31_0 : w22.cell? ⟨w7.heap.size, 0, none⟩ = some (.int .i64 sy0) := hk'.cell (by simp <;> omega) c21_o31_0
  clear c21_o31_0 ac21_o31_0
  have c22_o31_1 : w22.cell? ⟨w7.heap.size, 1, none⟩ = some (.int .i64 st0) := hk'.cell (by simp <;> omega) c21_o31_1
  clear c21_o31_1 ac21_o31_1
  have c22_o31_2 : w22.cell? ⟨w7.heap.size, 2, none⟩ = some (.slice (some ⟨g030, 0, none⟩) n0 n0) := hk'.cell (by simp <;> omega) c21_o31_2
  clear c21_o31_2 ac21_o31_2
  have c22_o48_0 : w22.cell? ⟨w11.heap.size, 0, none⟩ = some (.int .i64 (rpR sy0 st0 xs0 x1 xs2 xs3 xs4).1.1) := hk'.cell (by simp <;> omega) c21_o48_0
  clear c21_o48_0 ac21_o48_0
  have c22_o48_1 : w22.cell? ⟨w11.heap.size, 1, none⟩ = some (.int .i64 (rpR sy0 st0 xs0 x1 xs2 xs3 xs4).1.2.1) := hk'.cell (by simp <;> omega) c21_o48_1
  clear c21_o48_1 ac21_o48_1
  have c22_o48_2 : w22.cell? ⟨w11.heap.size, 2, none⟩ = some (.int .i64 (rpR sy0 st0 xs0 x1 xs2 xs3 xs4).1.2.2.1) := hk'.cell (by simp <;> omega) c21_o48_2
  clear c21_o48_2 ac21_o48_2
  have c22_o48_3 : w22.cell? ⟨w11.heap.size, 3, none⟩ = some (.slice A35 n36 c37) := hk'.cell (by simp <;> omega) c21_o48_3
  clear c21_o48_3 ac21_o48_3
  have c22_o48_4 : w22.cell? ⟨w11.heap.size, 4, none⟩ = some (.slice B39 m40 d41) := hk'.cell (by simp <;> omega) c21_o48_4
  clear c21_o48_4 ac21_o48_4
  have c22_o48_5 : w22.cell? ⟨w11.heap.size, 5, none⟩ = some (.slice C43 k44 e45) := hk'.cell (by simp <;> omega) c21_o48_5
  clear c21_o48_5 ac21_o48_5
  have ac22_a0_0 := fun o => keepa o c22_a0_0
  have ac22_a0_1 := fun o => keepa o c22_a0_1
  have ac22_a0_2 := fun o => keepa o c22_a0_2
  have ac22_o29_0 := fun o => keepa o c22_o29_0
  have ac22_o29_1 := fun o => keepa o c22_o29_1
  have ac22_o29_2 := fun o => keepa o c22_o29_2
  have ac22_o29_3 := fun o => keepa o c22_o29_3
  have ac22_o29_4 := fun o => keepa o c22_o29_4
  have ac22_o29_5 := fun o => keepa o c22_o29_5
  have ac22_o31_0 := fun o => keepa o c22_o31_0
  have ac22_o31_1 := fun o => keepa o c22_o31_1
  have ac22_o31_2 := fun o => keepa o c22_o31_2
  have ac22_o48_0 := fun o => keepa o c22_o48_0
  have ac22_o48_1 := fun o => keepa o c22_o48_1
  have ac22_o48_2 := fun o => keepa o c22_o48_2
  have ac22_o48_3 := fun o => keepa o c22_o48_3
  have ac22_o48_4 := fun o => keepa o c22_o48_4
  have ac22_o48_5 := fun o => keepa o c22_o48_5
  have rP0 := P0.out.keep hk' (by omega); clear P0; have P0 := Lib.hid rP0; clear rP0
  have rP2 := P2.out.keep hk' (by omega); clear P2; have P2 := Lib.hid rP2; clear rP2
  have rP3 := P3.out.keep hk' (by omega); clear P3; have P3 := Lib.hid rP3; clear rP3
  have rP4 := P4.out.keep hk' (by omega); clear P4; have P4 := Lib.hid rP4; clear rP4
  have rFo12 := Fo12.out.keep hk' (by omega); clear Fo12; have Fo12 := Lib.hid rFo12; clear rFo12
  have rFo13 := Fo13.out.keep hk' (by omega); clear Fo13; have Fo13 := Lib.hid rFo13; clear rFo13
  have rFo14 := Fo14.out.keep hk' (by omega); clear Fo14; have Fo14 := Lib.hid rFo14; clear rFo14
  have rFo15 := Fo15.out.keep hk' (by omega); clear Fo15; have Fo15 := Lib.hid rFo15; clear rFo15
  have rFo29 := Fo29.out.keep hk' (by omega); clear Fo29; have Fo29 := Lib.hid rFo29; clear rFo29
  have rFo31 := Fo31.out.keep hk' (by omega); clear Fo31; have Fo31 := Lib.hid rFo31; clear rFo31
  have rFo32 := q22; clear Fo32; have Fo32 := Lib.hid rFo32; clear rFo32 q22
  have rFo33 := Fo33.out.keep hk' (by omega); clear Fo33; have Fo33 := Lib.hid rFo33; clear rFo33
  have rFo34 := Fo34.out.keep hk' (by omega); clear Fo34; have Fo34 := Lib.hid rFo34; clear rFo34
  have rFo48 := Fo48.out.keep hk' (by omega); clear Fo48; have Fo48 := Lib.hid rFo48; clear rFo48
  have rFo51 := Fo51.out.keep hk' (by omega); clear Fo51; have Fo51 := Lib.hid rFo51; clear rFo51
  have rFo52 := Fo52.out.keep hk' (by omega); clear Fo52; have Fo52 := Lib.hid rFo52; clear rFo52
  have rFo53 := Fo53.out.keep hk' (by omega); clear Fo53; have Fo53 := Lib.hid rFo53; clear rFo53
  have rB := B.out.trans (hk'.below (B := w.heap.size) (by omega) (by omega)); clear B; have B := Lib.hid rB; clear rB
  clear hk hk'
  go_wp2_with fail
  refine (markInt64S_c _ _ _ _ _ _ _ _ (by exact (Fo33.out)) (by omega) (by omega) (by omega)).mono ?_
  rintro e w23 ⟨rfl, q23, hk⟩
  have hk' : KeepR w8.heap.size w9.heap.size w22 w23 := (by first | (with_reducible exact hk) | (with_reducible exact hk.up1) | (with_reducible exact hk.up1.up1))
  have z23 := hk'.size
  have c23_a0_0 : w23.cell? ⟨w.heap.size, 0, none⟩ = some (.int .i64 sy0) := hk'.cell (by simp <;> omega) c22_a0_0
  clear c22_a0_0 ac22_a0_0
  have c23_a0_1 : w23.cell? ⟨w.heap.size, 1, none⟩ = some (.int .i64 st0) := hk'.cell (by simp <;> omega) c22_a0_1
  clear c22_a0_1 ac22_a0_1
  have c23_a0_2 : w23.cell? ⟨w.heap.size, 2, none⟩ = some (.slice A0 n0 c0) := hk'.cell (by simp <;> omega) c22_a0_2
  clear c22_a0_2 ac22_a0_2
  have c23_o29_0 : w23.cell? ⟨w6.heap.size, 0, none⟩ = some (.int .i64 (rpR sy0 st0 xs0 x1 xs2 xs3 xs4).1.1) := hk'.cell (by simp <;> omega) c22_o29_0
  clear c22_o29_0 ac22_o29_0
  have c23_o29_1 : w23.cell? ⟨w6.heap.size, 1, none⟩ = some (.int .i64 (rpR sy0 st0 xs0 x1 xs2 xs3 xs4).1.2.1) := hk'.cell (by simp <;> omega) c22_o29_1
  clear c22_o29_1 ac22_o29_1
  have c23_o29_2 : w23.cell? ⟨w6.heap.size, 2, none⟩ = some (.int .i64 (rpR sy0 st0 xs0 x1 xs2 xs3 xs4).1.2.2.1) := hk'.cell (by simp <;> omega) c22_o29_2
  clear c22_o29_2 ac22_o29_2
  have c23_o29_3 : w23.cell? ⟨w6.heap.size, 3, none⟩ = some (.slice A16 n17 c18) := hk'.cell (by simp <;> omega) c22_o29_3
  clear c22_o29_3 ac22_o29_3
  have c23_o29_4 : w23.cell? ⟨w6.heap.size, 4, none⟩ = some (.slice B20 m21 d22) := hk'.cell (by simp <;> omega) c22_o29_4
  clear c22_o29_4 ac22_o29_4
  have c23_o29_5 : w23.cell? ⟨w6.heap.size, 5, none⟩ = some (.slice C24 k25 e26) := hk'.cell (by simp <;> omega) c22_o29_5
  clear c22_o29_5 ac22_o29_5
  have c23_o31_0 : w23.cell? ⟨w7.heap.size, 0, none⟩ = some (.int .i64 sy0) := hk'.cell (by simp <;> omega) c22_o31_0
  clear c22_o31_0 ac22_o31_0
  have c23_o31_1 : w23.cell? ⟨w7.heap.size, 1, none⟩ = some (.int .i64 st0) := hk'.cell (by simp <;> omega) c22_o31_1
  clear c22_o31_1 ac22_o31_1
  have c23_o31_2 : w23.cell? ⟨w7.heap.size, 2, none⟩ = some (.slice (some ⟨g030, 0, none⟩) n0 n0) := hk'.cell (by simp <;> omega) c22_o31_2
  clear c22_o31_2 ac22_o31_2
  have c23_o48_0 : w23.cell? ⟨w11.heap.size, 0, none⟩ = some (.int .i64 (rpR sy0 st0 xs0 x1 xs2 xs3 xs4).1.1) := hk'.cell (by simp <;> omega) c22_o48_0
  clear c22_o48_0 ac22_o48_0
  have c23_o48_1 : w23.cell? ⟨w11.heap.size, 1, none⟩ = some (.int .i64 (rpR sy0 st0 xs0 x1 xs2 xs3 xs4).1.2.1) := hk'.cell (by simp <;> omega) c22_o48_1
  clear c22_o48_1 ac22_o48_1
  have c23_o48_2 : w23.cell? ⟨w11.heap.size, 2, none⟩ = some (.int .i64 (rpR sy0 st0 xs0 x1 xs2 xs3 xs4).1.2.2.1) := hk'.cell (by simp <;> omega) c22_o48_2
  clear c22_o48_2 ac22_o48_2
  have c23_o48_3 : w23.cell? ⟨w11.heap.size, 3, none⟩ = some (.slice A35 n36 c37) := hk'.cell (by simp <;> omega) c22_o48_3
  clear c22_o48_3 ac22_o48_3
  have c23_o48_4 : w23.cell? ⟨w11.heap.size, 4, none⟩ = some (.slice B39 m40 d41) := hk'.cell (by simp <;> omega) c22_o48_4
  clear c22_o48_4 ac22_o48_4
  have c23_o48_5 : w23.cell? ⟨w11.heap.size, 5, none⟩ = some (.slice C43 k44 e45) := hk'.cell (by simp <;> omega) c22_o48_5
  clear c22_o48_5 ac22_o48_5
  have ac23_a0_0 := fun o => keepa o c23_a0_0
  have ac23_a0_1 := fun o => keepa o c23_a0_1
  have ac23_a0_2 := fun o => keepa o c23_a0_2
  have ac23_o29_0 := fun o => keepa o c23_o29_0
  have ac23_o29_1 := fun o => keepa o c23_o29_1
  have ac23_o29_2 := fun o => keepa o c23_o29_2
  have ac23_o29_3 := fun o => keepa o c23_o29_3
  have ac23_o29_4 := fun o => keepa o c23_o29_4
  have ac23_o29_5 := fun o => keepa o c23_o29_5
  have ac23_o31_0 := fun o => keepa o c23_o31_0
  have ac23_o31_1 := fun o => keepa o c23_o31_1
  have ac23_o31_2 := fun o => keepa o c23_o31_2
  have ac23_o48_0 := fun o => keepa o c23_o48_0
  have ac23_o48_1 := fun o => keepa o c23_o48_1
  have ac23_o48_2 := fun o => keepa o c23_o48_2
  have ac23_o48_3 := fun o => keepa o c23_o48_3
  have ac23_o48_4 := fun o => keepa o c23_o48_4
  have ac23_o48_5 := fun o => keepa o c23_o48_5
  have rP0 := P0.out.keep hk' (by omega); clear P0; have P0 := Lib.hid rP0; clear rP0
  have rP2 := P2.out.keep hk' (by omega); clear P2; have P2 := Lib.hid rP2; clear rP2
  have rP3 := P3.out.keep hk' (by omega); clear P3; have P3 := Lib.hid rP3; clear rP3
  have rP4 := P4.out.keep hk' (by omega); clear P4; have P4 := Lib.hid rP4; clear rP4
  have rFo12 := Fo12.out.keep hk' (by omega); clear Fo12; have Fo12 := Lib.hid rFo12; clear rFo12
  have rFo13 := Fo13.out.keep hk' (by omega); clear Fo13; have Fo13 := Lib.hid rFo13; clear rFo13
  have rFo14 := Fo14.out.keep hk' (by omega); clear Fo14; have Fo14 := Lib.hid rFo14; clear rFo14
  have rFo15 := Fo15.out.keep hk' (by omega); clear Fo15; have Fo15 := Lib.hid rFo15; clear rFo15
  have rFo29 := Fo29.out.keep hk' (by omega); clear Fo29; have Fo29 := Lib.hid rFo29; clear rFo29
  have rFo31 := Fo31.out.keep hk' (by omega); clear Fo31; have Fo31 := Lib.hid rFo31; clear rFo31
  have rFo32 := Fo32.out.keep hk' (by omega); clear Fo32; have Fo32 := Lib.hid rFo32; clear rFo32
  have rFo33 := q23; clear Fo33; have Fo33 := Lib.hid rFo33; clear rFo33 q23
  have rFo34 := Fo34.out.keep hk' (by omega); clear Fo34; have Fo34 := Lib.hid rFo34; clear rFo34
  have rFo48 := Fo48.out.keep hk' (by omega); clear Fo48; have Fo48 := Lib.hid rFo48; clear rFo48
  have rFo51 := Fo51.out.keep hk' (by omega); clear Fo51; have Fo51 := Lib.hid rFo51; clear rFo51
  have rFo52 := Fo52.out.keep hk' (by omega); clear Fo52; have Fo52 := Lib.hid rFo52; clear rFo52
  have rFo53 := Fo53.out.keep hk' (by omega); clear Fo53; have Fo53 := Lib.hid rFo53; clear rFo53
  have rB := B.out.trans (hk'.below (B := w.heap.size) (by omega) (by omega)); clear B; have B := Lib.hid rB; clear rB
  clear hk hk'
  go_wp2_with fail
  refine (markInt64S_c _ _ _ _ _ _ _ _ (by exact (Fo34.out)) (by omega) (by omega) (by omega)).mono ?_
  rintro e w24 ⟨rfl, q24, hk⟩
  have hk' : KeepR w9.heap.size w10.heap.size w23 w24 := (by first | (with_reducible exact hk) | (with_reducible exact hk.up1) | (with_reducible exact hk.up1.up1))
  have z24 := hk'.size
  have c24_a0_0 : w24.cell? ⟨w.heap.size, 0, none⟩ = some (.int .i64 sy0) := hk'.cell (by simp <;> omega) c23_a0_0
  clear c23_a0_0 ac23_a0_0
  have c24_a0_1 : w24.cell? ⟨w.heap.size, 1, none⟩ = some (.int .i64 st0) := hk'.cell (by simp <;> omega) c23_a0_1
  clear c23_a0_1 ac23_a0_1
  have c24_a0_2 : w24.cell? ⟨w.heap.size, 2, none⟩ = some (.slice A0 n0 c0) := hk'.cell (by simp <;> omega) c23_a0_2
  clear c23_a0_2 ac23_a0_2
  have c24_o29_0 : w24.cell? ⟨w6.heap.size, 0, none⟩ = some (.int .i64 (rpR sy0 st0 xs0 x1 xs2 xs3 xs4).1.1) := hk'.cell (by simp <;> omega) c23_o29_0
  clear c23_o29_0 ac23_o29_0
  have c24_o29_1 : w24.cell? ⟨w6.heap.size, 1, none⟩ = some (.int .i64 (rpR sy0 st0 xs0 x1 xs2 xs3 xs4).1.2.1) := hk'.cell (by simp <;> omega) c23_o29_1
  clear c23_o29_1 ac23_o29_1
  have c24_o29_2 : w24.cell? ⟨w6.heap.size, 2, none⟩ = some (.int .i64 (rpR sy0 st0 xs0 x1 xs2 xs3 xs4).1.2.2.1) := hk'.cell (by simp <;> omega) c23_o29_2
  clear c23_o29_2 ac23_o29_2
  have c24_o29_3 : w24.cell? ⟨w6.heap.size, 3, none⟩ = some (.slice A16 n17 c18) := hk'.cell (by simp <;> omega) c23_o29_3
  clear c23_o29_3 ac23_o29_3
  have c24_o29_4 : w24.cell? ⟨w6.heap.size, 4, none⟩ = some (.slice B20 m21 d22) := hk'.cell (by simp <;> omega) c23_o29_4
  clear c23_o29_4 ac23_o29_4
  have c24_o29_5 : w24.cell? ⟨w6.heap.size, 5, none⟩ = some (.slice C24 k25 e26) := hk'.cell (by simp <;> omega) c23_o29_5
  clear c23_o29_5 ac23_o29_5
  have c24_o31_0 : w24.cell? ⟨w7.heap.size, 0, none⟩ = some (.int .i64 sy0) := hk'.cell (by simp <;> omega) c23_o31_0
  clear c23_o31_0 ac23_o31_0
  have c24_o31_1 : w24.cell? ⟨w7.heap.size, 1, none⟩ = some (.int .i64 st0) := hk'.cell (by simp <;> omega) c23_o31_1
  clear c23_o31_1 ac23_o31_1
  have c24_o31_2 : w24.cell? ⟨w7.heap.size, 2, none⟩ = some (.slice (some ⟨g030, 0, none⟩) n0 n0) := hk'.cell (by simp <;> omega) c23_o31_2
  clear c23_o31_2 ac23_o31_2
  have c24_o48_0 : w24.cell? ⟨w11.heap.size, 0, none⟩ = some (.int .i64 (rpR sy0 st0 xs0 x1 xs2 xs3 xs4).1.1) := hk'.cell (by simp <;> omega) c23_o48_0
  clear c23_o48_0 ac23_o48_0
  have c24_o48_1 : w24.cell? ⟨w11.heap.size, 1, none⟩ = some (.int .i64 (rpR sy0 st0 xs0 x1 xs2 xs3 xs4).1.2.1) := hk'.cell (by simp <;> omega) c23_o48_1
  clear c23_o48_1 ac23_o48_1
  have c24_o48_2 : w24.cell? ⟨w11.heap.size, 2, none⟩ = some (.int .i64 (rpR sy0 st0 xs0 x1 xs2 xs3 xs4).1.2.2.1) := hk'.cell (by simp <;> omega) c23_o48_2
  clear c23_o48_2 ac23_o48_2
  have c24_o48_3 : w24.cell? ⟨w11.heap.size, 3, none⟩ = some (.slice A35 n36 c37) := hk'.cell (by simp <;> omega) c23_o48_3
  clear c23_o48_3 ac23_o48_3
  have c24_o48_4 : w24.cell? ⟨w11.heap.size, 4, none⟩ = some (.slice B39 m40 d41) := hk'.cell (by simp <;> omega) c23_o48_4
  clear c23_o48_4 ac23_o48_4
  have c24_o48_5 : w24.cell? ⟨w11.heap.size, 5, none⟩ = some (.slice C43 k44 e45) := hk'.cell (by simp <;> omega) c23_o48_5
  clear c23_o48_5 ac23_o48_5
  have ac24_a0_0 := fun o => keepa o c24_a0_0
  have ac24_a0_1 := fun o => keepa o c24_a0_1
  have ac24_a0_2 := fun o => keepa o c24_a0_2
  have ac24_o29_0 := fun o => keepa o c24_o29_0
  have ac24_o29_1 := fun o => keepa o c24_o29_1
  have ac24_o29_2 := fun o => keepa o c24_o29_2
  have ac24_o29_3 := fun o => keepa o c24_o29_3
  have ac24_o29_4 := fun o => keepa o c24_o29_4
  have ac24_o29_5 := fun o => keepa o c24_o29_5
  have ac24_o31_0 := fun o => keepa o c24_o31_0
  have ac24_o31_1 := fun o => keepa o c24_o31_1
  have ac24_o31_2 := fun o => keepa o c24_o31_2
  have ac24_o48_0 := fun o => keepa o c24_o48_0
  have ac24_o48_1 := fun o => keepa o c24_o48_1
  have ac24_o48_2 := fun o => keepa o c24_o48_2
  have ac24_o48_3 := fun o => keepa o c24_o48_3
  have ac24_o48_4 := fun o => keepa o c24_o48_4
  have ac24_o48_5 := fun o => keepa o c24_o48_5
  have rP0 := P0.out.keep hk' (by omega); clear P0; have P0 := Lib.hid rP0; clear rP0
  have rP2 := P2.out.keep hk' (by omega); clear P2; have P2 := Lib.hid rP2; clear rP2
  have rP3 := P3.out.keep hk' (by omega); clear P3; have P3 := Lib.hid rP3; clear rP3
  have rP4 := P4.out.keep hk' (by omega); clear P4; have P4 := Lib.hid rP4; clear rP4
  have rFo12 := Fo12.out.keep hk' (by omega); clear Fo12; have Fo12 := Lib.hid rFo12; clear rFo12
  have rFo13 := Fo13.out.keep hk' (by omega); clear Fo13; have Fo13 := Lib.hid rFo13; clear rFo13
  have rFo14 := Fo14.out.keep hk' (by omega); clear Fo14; have Fo14 := Lib.hid rFo14; clear rFo14
  have rFo15 := Fo15.out.keep hk' (by omega); clear Fo15; have Fo15 := Lib.hid rFo15; clear rFo15
  have rFo29 := Fo29.out.keep hk' (by omega); clear Fo29; have Fo29 := Lib.hid rFo29; clear rFo29
  have rFo31 := Fo31.out.keep hk' (by omega); clear Fo31; have Fo31 := Lib.hid rFo31; clear rFo31
  have rFo32 := Fo32.out.keep hk' (by omega); clear Fo32; have Fo32 := Lib.hid rFo32; clear rFo32
  have rFo33 := Fo33.out.keep hk' (by omega); clear Fo33; have Fo33 := Lib.hid rFo33; clear rFo33
  have rFo34 := q24; clear Fo34; have Fo34 := Lib.hid rFo34; clear rFo34 q24
  have rFo48 := Fo48.out.keep hk' (by omega); clear Fo48; have Fo48 := Lib.hid rFo48; clear rFo48
  have rFo51 := Fo51.out.keep hk' (by omega); clear Fo51; have Fo51 := Lib.hid rFo51; clear rFo51
  have rFo52 := Fo52.out.keep hk' (by omega); clear Fo52; have Fo52 := Lib.hid rFo52; clear rFo52
  have rFo53 := Fo53.out.keep hk' (by omega); clear Fo53; have Fo53 := Lib.hid rFo53; clear rFo53
  have rB := B.out.trans (hk'.below (B := w.heap.size) (by omega) (by omega)); clear B; have B := Lib.hid rB; clear rB
  clear hk hk'
  go_wp2_with fail
  refine (eqFormula_t _ _ _ _ _ _ _ _ _ _ _ _ _ _ _ _ _ _ _ _ _ _ _ _ _ _ _ (by exact (Fo48.out.rd)) (by exact (Fo29.out.rd)) (by omega) (by omega) (by omega) hI0_o48 (hm0_o48.out.trans hm0_o29.out.symm) hI1_o48 (hm1_o48.out.trans hm1_o29.out.symm)).mono ?_
  rintro e w25 ⟨rfl, hb⟩
  have hb' : Below w24.heap.size w24 w25 := (by first | (with_reducible exact hb) | (with_reducible exact up1 hb) | (with_reducible exact up2 hb) | (with_reducible exact up3 hb) | (with_reducible exact up4 hb) | (with_reducible exact below_of_drew hb) | (with_reducible exact below_of_drew (up1 hb)))
  have z25 := hb'.size
  have c25_a0_0 : w25.cell? ⟨w.heap.size, 0, none⟩ = some (.int .i64 sy0) := keepc hb' c24_a0_0
  clear c24_a0_0 ac24_a0_0
  have c25_a0_1 : w25.cell? ⟨w.heap.size, 1, none⟩ = some (.int .i64 st0) := keepc hb' c24_a0_1
  clear c24_a0_1 ac24_a0_1
  have c25_a0_2 : w25.cell? ⟨w.heap.size, 2, none⟩ = some (.slice A0 n0 c0) := keepc hb' c24_a0_2
  clear c24_a0_2 ac24_a0_2
  have c25_o29_0 : w25.cell? ⟨w6.heap.size, 0, none⟩ = some (.int .i64 (rpR sy0 st0 xs0 x1 xs2 xs3 xs4).1.1) := keepc hb' c24_o29_0
  clear c24_o29_0 ac24_o29_0
  have c25_o29_1 : w25.cell? ⟨w6.heap.size, 1, none⟩ = some (.int .i64 (rpR sy0 st0 xs0 x1 xs2 xs3 xs4).1.2.1) := keepc hb' c24_o29_1
  clear c24_o29_1 ac24_o29_1
  have c25_o29_2 : w25.cell? ⟨w6.heap.size, 2, none⟩ = some (.int .i64 (rpR sy0 st0 xs0 x1 xs2 xs3 xs4).1.2.2.1) := keepc hb' c24_o29_2
  clear c24_o29_2 ac24_o29_2
  have c25_o29_3 : w25.cell? ⟨w6.heap.size, 3, none⟩ = some (.slice A16 n17 c18) := keepc hb' c24_o29_3
  clear c24_o29_3 ac24_o29_3
  have c25_o29_4 : w25.cell? ⟨w6.heap.size, 4, none⟩ = some (.slice B20 m21 d22) := keepc hb' c24_o29_4
  clear c24_o29_4 ac24_o29_4
  have c25_o29_5 : w25.cell? ⟨w6.heap.size, 5, none⟩ = some (.slice C24 k25 e26) := keepc hb' c24_o29_5
  clear c24_o29_5 ac24_o29_5
  have c25_o31_0 : w25.cell? ⟨w7.heap.size, 0, none⟩ = some (.int .i64 sy0) := keepc hb' c24_o31_0
  clear c24_o31_0 ac24_o31_0
  have c25_o31_1 : w25.cell? ⟨w7.heap.size, 1, none⟩ = some (.int .i64 st0) := keepc hb' c24_o31_1
  clear c24_o31_1 ac24_o31_1
  have c25_o31_2 : w25.cell? ⟨w7.heap.size, 2, none⟩ = some (.slice (some ⟨g030, 0, none⟩) n0 n0) := keepc hb' c24_o31_2
  clear c24_o31_2 ac24_o31_2
  have c25_o48_0 : w25.cell? ⟨w11.heap.size, 0, none⟩ = some (.int .i64 (rpR sy0 st0 xs0 x1 xs2 xs3 xs4).1.1) := keepc hb' c24_o48_0
  clear c24_o48_0 ac24_o48_0
  have c25_o48_1 : w25.cell? ⟨w11.heap.size, 1, none⟩ = some (.int .i64 (rpR sy0 st0 xs0 x1 xs2 xs3 xs4).1.2.1) := keepc hb' c24_o48_1
  clear c24_o48_1 ac24_o48_1
  have c25_o48_2 : w25.cell? ⟨w11.heap.size, 2, none⟩ = some (.int .i64 (rpR sy0 st0 xs0 x1 xs2 xs3 xs4).1.2.2.1) := keepc hb' c24_o48_2
  clear c24_o48_2 ac24_o48_2
  have c25_o48_3 : w25.cell? ⟨w11.heap.size, 3, none⟩ = some (.slice A35 n36 c37) := keepc hb' c24_o48_3
  clear c24_o48_3 ac24_o48_3
  have c25_o48_4 : w25.cell? ⟨w11.heap.size, 4, none⟩ = some (.slice B39 m40 d41) := keepc hb' c24_o48_4
  clear c24_o48_4 ac24_o48_4
  have c25_o48_5 : w25.cell? ⟨w11.heap.size, 5, none⟩ = some (.slice C43 k44 e45) := keepc hb' c24_o48_5
  clear c24_o48_5 ac24_o48_5
  have ac25_a0_0 := fun o => keepa o c25_a0_0
  have ac25_a0_1 := fun o => keepa o c25_a0_1
  have ac25_a0_2 := fun o => keepa o c25_a0_2
  have ac25_o29_0 := fun o => keepa o c25_o29_0
  have ac25_o29_1 := fun o => keepa o c25_o29_1
  have ac25_o29_2 := fun o => keepa o c25_o29_2
  have ac25_o29_3 := fun o => keepa o c25_o29_3
  have ac25_o29_4 := fun o => keepa o c25_o29_4
  have ac25_o29_5 := fun o => keepa o c25_o29_5
  have ac25_o31_0 := fun o => keepa o c25_o31_0
  have ac25_o31_1 := fun o => keepa o c25_o31_1
  have ac25_o31_2 := fun o => keepa o c25_o31_2
  have ac25_o48_0 := fun o => keepa o c25_o48_0
  have ac25_o48_1 := fun o => keepa o c25_o48_1
  have ac25_o48_2 := fun o => keepa o c25_o48_2
  have ac25_o48_3 := fun o => keepa o c25_o48_3
  have ac25_o48_4 := fun o => keepa o c25_o48_4
  have ac25_o48_5 := fun o => keepa o c25_o48_5
  have rP0 := P0.out.below hb'; clear P0; have P0 := Lib.hid rP0; clear rP0
  have rP2 := P2.out.below hb'; clear P2; have P2 := Lib.hid rP2; clear rP2
  have rP3 := P3.out.below hb'; clear P3; have P3 := Lib.hid rP3; clear rP3
  have rP4 := P4.out.below hb'; clear P4; have P4 := Lib.hid rP4; clear rP4
  have rFo12 := Fo12.out.below hb'; clear Fo12; have Fo12 := Lib.hid rFo12; clear rFo12
  have rFo13 := Fo13.out.below hb'; clear Fo13; have Fo13 := Lib.hid rFo13; clear rFo13
  have rFo14 := Fo14.out.below hb'; clear Fo14; have Fo14 := Lib.hid rFo14; clear rFo14
  have rFo15 := Fo15.out.below hb'; clear Fo15; have Fo15 := Lib.hid rFo15; clear rFo15
  have rFo29 := Fo29.out.below hb'; clear Fo29; have Fo29 := Lib.hid rFo29; clear rFo29
  have rFo31 := Fo31.out.below hb'; clear Fo31; have Fo31 := Lib.hid rFo31; clear rFo31
  have rFo32 := Fo32.out.below hb'; clear Fo32; have Fo32 := Lib.hid rFo32; clear rFo32
  have rFo33 := Fo33.out.below hb'; clear Fo33; have Fo33 := Lib.hid rFo33; clear rFo33
  have rFo34 := Fo34.out.below hb'; clear Fo34; have Fo34 := Lib.hid rFo34; clear rFo34
  have rFo48 := Fo48.out.below hb'; clear Fo48; have Fo48 := Lib.hid rFo48; clear rFo48
  have rFo51 := Fo51.out.below hb'; clear Fo51; have Fo51 := Lib.hid rFo51; clear rFo51
  have rFo52 := Fo52.out.below hb'; clear Fo52; have Fo52 := Lib.hid rFo52; clear rFo52
  have rFo53 := Fo53.out.below hb'; clear Fo53; have Fo53 := Lib.hid rFo53; clear rFo53
  have rB := below_chain B.out (by omega) hb'; clear B; have B := Lib.hid rB; clear rB
  clear hb hb'
  go_wp2_with fail
  refine (markFormula_c _ _ _ _ _ _ _ _ _ _ _ _ _ _ _ _ _ _ _ (by exact (Fo48.out)) (by omega) (by omega) (by omega) hI0_o48 (by omega) hI1_o48 (by omega) (by first | omega | (simp; omega)) (by omega) (by omega)).mono ?_
  rintro e w26 ⟨rfl, q26, hk⟩
  have hk' : KeepR w10.heap.size w11.heap.size w25 w26 := (by first | (with_reducible exact hk) | (with_reducible exact hk.up1) | (with_reducible exact hk.up1.up1))
  have z26 := hk'.size
  have c26_a0_0 : w26.cell? ⟨w.heap.size, 0, none⟩ = some (.int .i64 sy0) := hk'.cell (by simp <;> omega) c25_a0_0
  clear c25_a0_0 ac25_a0_0
  have c26_a0_1 : w26.cell? ⟨w.heap.size, 1, none⟩ = some (.int .i64 st0) := hk'.cell (by simp <;> omega) c25_a0_1
  clear c25_a0_1 ac25_a0_1
  have c26_a0_2 : w26.cell? ⟨w.heap.size, 2, none⟩ = some (.slice A0 n0 c0) := hk'.cell (by simp <;> omega) c25_a0_2
  clear c25_a0_2 ac25_a0_2
  have c26_o29_0 : w26.cell? ⟨w6.heap.size, 0, none⟩ = some (.int .i64 (rpR sy0 st0 xs0 x1 xs2 xs3 xs4).1.1) := hk'.cell (by simp <;> omega) c25_o29_0
  clear c25_o29_0 ac25_o29_0
  have c26_o29_1 : w26.cell? ⟨w6.heap.size, 1, none⟩ = some (.int .i64 (rpR sy0 st0 xs0 x1 xs2 xs3 xs4).1.2.1) := hk'.cell (by simp <;> omega) c25_o29_1
  clear c25_o29_1 ac25_o29_1
  have c26_o29_2 : w26.cell? ⟨w6.heap.size, 2, none⟩ = some (.int .i64 (rpR sy0 st0 xs0 x1 xs2 xs3 xs4).1.2.2.1) := hk'.cell (by simp <;> omega) c25_o29_2
  clear c25_o29_2 ac25_o29_2
  have c26_o29_3 : w26.cell? ⟨w6.heap.size, 3, none⟩ = some (.slice A16 n17 c18) := hk'.cell (by simp <;> omega) c25_o29_3
  clear c25_o29_3 ac25_o29_3
  have c26_o29_4 : w26.cell? ⟨w6.heap.size, 4, none⟩ = some (.slice B20 m21 d22) := hk'.cell (by simp <;> omega) c25_o29_4
  clear c25_o29_4 ac25_o29_4
  have c26_o29_5 : w26.cell? ⟨w6.heap.size, 5, none⟩ = some (.slice C24 k25 e26) := hk'.cell (by simp <;> omega) c25_o29_5
  clear c25_o29_5 ac25_o29_5
  have c26_o31_0 : w26.cell? ⟨w7.heap.size, 0, none⟩ = some (.int .i64 sy0) := hk'.cell (by simp <;> omega) c25_o31_0
  clear c25_o31_0 ac25_o31_0
  have c26_o31_1 : w26.cell? ⟨w7.heap.size, 1, none⟩ = some (.int .i64 st0) := hk'.cell (by simp <;> omega) c25_o31_1
  clear c25_o31_1 ac25_o31_1
  have c26_o31_2 : w26.cell? ⟨w7.heap.size, 2, none⟩ = some (.slice (some ⟨g030, 0, none⟩) n0 n0) := hk'.cell (by simp <;> omega) c25_o31_2
  clear c25_o31_2 ac25_o31_2
  have c26_o48_0 : w26.cell? ⟨w11.heap.size, 0, none⟩ = some (.int .i64 (rpR sy0 st0 xs0 x1 xs2 xs3 xs4).1.1) := hk'.cell (by simp <;> omega) c25_o48_0
  clear c25_o48_0 ac25_o48_0
  have c26_o48_1 : w26.cell? ⟨w11.heap.size, 1, none⟩ = some (.int .i64 (rpR sy0 st0 xs0 x1 xs2 xs3 xs4).1.2.1) := hk'.cell (by simp <;> omega) c25_o48_1
  clear c25_o48_1 ac25_o48_1
  have c26_o48_2 : w26.cell? ⟨w11.heap.size, 2, none⟩ = some (.int .i64 (rpR sy0 st0 xs0 x1 xs2 xs3 xs4).1.2.2.1) := hk'.cell (by simp <;> omega) c25_o48_2
  clear c25_o48_2 ac25_o48_2
  have c26_o48_3 : w26.cell? ⟨w11.heap.size, 3, none⟩ = some (.slice A35 n36 c37) := hk'.cell (by simp <;> omega) c25_o48_3
  clear c25_o48_3 ac25_o48_3
  have c26_o48_4 : w26.cell? ⟨w11.heap.size, 4, none⟩ = some (.slice B39 m40 d41) := hk'.cell (by simp <;> omega) c25_o48_4
  clear c25_o48_4 ac25_o48_4
  have c26_o48_5 : w26.cell? ⟨w11.heap.size, 5, none⟩ = some (.slice C43 k44 e45) := hk'.cell (by simp <;> omega) c25_o48_5
  clear c25_o48_5 ac25_o48_5
  have ac26_a0_0 := fun o => keepa o c26_a0_0
  have ac26_a0_1 := fun o => keepa o c26_a0_1
  have ac26_a0_2 := fun o => keepa o c26_a0_2
  have ac26_o29_0 := fun o => keepa o c26_o29_0
  have ac26_o29_1 := fun o => keepa o c26_o29_1
  have ac26_o29_2 := fun o => keepa o c26_o29_2
  have ac26_o29_3 := fun o => keepa o c26_o29_3
  have ac26_o29_4 := fun o => keepa o c26_o29_4
  have ac26_o29_5 := fun o => keepa o c26_o29_5
  have ac26_o31_0 := fun o => keepa o c26_o31_0
  have ac26_o31_1 := fun o => keepa o c26_o31_1
  have ac26_o31_2 := fun o => keepa o c26_o31_2
  have ac26_o48_0 := fun o => keepa o c26_o48_0
  have ac26_o48_1 := fun o => keepa o c26_o48_1
  have ac26_o48_2 := fun o => keepa o c26_o48_2
  have ac26_o48_3 := fun o => keepa o c26_o48_3
  have ac26_o48_4 := fun o => keepa o c26_o48_4
  have ac26_o48_5 := fun o => keepa o c26_o48_5
  have rP0 := P0.out.keep hk' (by omega); clear P0; have P0 := Lib.hid rP0; clear rP0
  have rP2 := P2.out.keep hk' (by omega); clear P2; have P2 := Lib.hid rP2; clear rP2
  have rP3 := P3.out.keep hk' (by omega); clear P3; have P3 := Lib.hid rP3; clear rP3
  have rP4 := P4.out.keep hk' (by omega); clear P4; have P4 := Lib.hid rP4; clear rP4
  have rFo12 := Fo12.out.keep hk' (by omega); clear Fo12; have Fo12 := Lib.hid rFo12; clear rFo12
  have rFo13 := Fo13.out.keep hk' (by omega); clear Fo13; have Fo13 := Lib.hid rFo13; clear rFo13
  have rFo14 := Fo14.out.keep hk' (by omega); clear Fo14; have Fo14 := Lib.hid rFo14; clear rFo14
  have rFo15 := Fo15.out.keep hk' (by omega); clear Fo15; have Fo15 := Lib.hid rFo15; clear rFo15
  have rFo29 := Fo29.out.keep hk' (by omega); clear Fo29; have Fo29 := Lib.hid rFo29; clear rFo29
  have rFo31 := Fo31.out.keep hk' (by omega); clear Fo31; have Fo31 := Lib.hid rFo31; clear rFo31
  have rFo32 := Fo32.out.keep hk' (by omega); clear Fo32; have Fo32 := Lib.hid rFo32; clear rFo32
  have rFo33 := Fo33.out.keep hk' (by omega); clear Fo33; have Fo33 := Lib.hid rFo33; clear rFo33
  have rFo34 := Fo34.out.keep hk' (by omega); clear Fo34; have Fo34 := Lib.hid rFo34; clear rFo34
  have rFo48 := q26; clear Fo48; have Fo48 := Lib.hid rFo48; clear rFo48 q26
  have rFo51 := Fo51.out.keep hk' (by omega); clear Fo51; have Fo51 := Lib.hid rFo51; clear rFo51
  have rFo52 := Fo52.out.keep hk' (by omega); clear Fo52; have Fo52 := Lib.hid rFo52; clear rFo52
  have rFo53 := Fo53.out.keep hk' (by omega); clear Fo53; have Fo53 := Lib.hid rFo53; clear rFo53
  have rB := B.out.trans (hk'.below (B := w.heap.size) (by omega) (by omega)); clear B; have B := Lib.hid rB; clear rB
  clear hk hk'
  go_wp2_with fail
  refine (heldFormula_c _ _ _ _ _ _ _ _ _ _ _ _ _ _ _ _ _ (by exact (Fo48.out.rd)) (by omega) (by omega) (by omega) hI0_o48 (by omega) hI1_o48 (by omega) (by omega) (by omega)).mono ?_
  rintro e w27 ⟨rfl, hb⟩
  have hb' : Below w26.heap.size w26 w27 := (by first | (with_reducible exact hb) | (with_reducible exact up1 hb) | (with_reducible exact up2 hb) | (with_reducible exact up3 hb) | (with_reducible exact up4 hb) | (with_reducible exact below_of_drew hb) | (with_reducible exact below_of_drew (up1 hb)))
  have z27 := hb'.size
  have c27_a0_0 : w27.cell? ⟨w.heap.size, 0, none⟩ = some (.int .i64 sy0) := keepc hb' c26_a0_0
  clear c26_a0_0 ac26_a0_0
  have c27_a0_1 : w27.cell? ⟨w.heap.size, 1, none⟩ = some (.int .i64 st0) := keepc hb' c26_a0_1
  clear c26_a0_1 ac26_a0_1
  have c27_a0_2 : w27.cell? ⟨w.heap.size, 2, none⟩ = some (.slice A0 n0 c0) := keepc hb' c26_a0_2
  clear c26_a0_2 ac26_a0_2
  have c27_o29_0 : w27.cell? ⟨w6.heap.size, 0, none⟩ = some (.int .i64 (rpR sy0 st0 xs0 x1 xs2 xs3 xs4).1.1) := keepc hb' c26_o29_0
  clear c26_o29_0 ac26_o29_0
  have c27_o29_1 : w27.cell? ⟨w6.heap.size, 1, none⟩ = some (.int .i64 (rpR sy0 st0 xs0 x1 xs2 xs3 xs4).1.2.1) := keepc hb' c26_o29_1
  clear c26_o29_1 ac26_o29_1
  have c27_o29_2 : w27.cell? ⟨w6.heap.size, 2, none⟩ = some (.int .i64 (rpR sy0 st0 xs0 x1 xs2 xs3 xs4).1.2.2.1) := keepc hb' c26_o29_2
  clear c26_o29_2 ac26_o29_2
  have c27_o29_3 : w27.cell? ⟨w6.heap.size, 3, none⟩ = some (.slice A16 n17 c18) := keepc hb' c26_o29_3
  clear c26_o29_3 ac26_o29_3
  have c27_o29_4 : w27.cell? ⟨w6.heap.size, 4, none⟩ = some (.slice B20 m21 d22) := keepc hb' c26_o29_4
  clear c26_o29_4 ac26_o29_4
  have c27_o29_5 : w27.cell? ⟨w6.heap.size, 5, none⟩ = some (.slice C24 k25 e26) := keepc hb' c26_o29_5
  clear c26_o29_5 ac26_o29_5
  have c27_o31_0 : w27.cell? ⟨w7.heap.size, 0, none⟩ = some (.int .i64 sy0) := keepc hb' c26_o31_0
  clear c26_o31_0 ac26_o31_0
  have c27_o31_1 : w27.cell? ⟨w7.heap.size, 1, none⟩ = some (.int .i64 st0) := keepc hb' c26_o31_1
  clear c26_o31_1 ac26_o31_1
  have c27_o31_2 : w27.cell? ⟨w7.heap.size, 2, none⟩ = some (.slice (some ⟨g030, 0, none⟩) n0 n0) := keepc hb' c26_o31_2
  clear c26_o31_2 ac26_o31_2
  have c27_o48_0 : w27.cell? ⟨w11.heap.size, 0, none⟩ = some (.int .i64 (rpR sy0 st0 xs0 x1 xs2 xs3 xs4).1.1) := keepc hb' c26_o48_0
  clear c26_o48_0 ac26_o48_0
  have c27_o48_1 : w27.cell? ⟨w11.heap.size, 1, none⟩ = some (.int .i64 (rpR sy0 st0 xs0 x1 xs2 xs3 xs4).1.2.1) := keepc hb' c26_o48_1
  clear c26_o48_1 ac26_o48_1
  have c27_o48_2 : w27.cell? ⟨w11.heap.size, 2, none⟩ = some (.int .i64 (rpR sy0 st0 xs0 x1 xs2 xs3 xs4).1.2.2.1) := keepc hb' c26_o48_2
  clear c26_o48_2 ac26_o48_2
  have c27_o48_3 : w27.cell? ⟨w11.heap.size, 3, none⟩ = some (.slice A35 n36 c37) := keepc hb' c26_o48_3
  clear c26_o48_3 ac26_o48_3
  have c27_o48_4 : w27.cell? ⟨w11.heap.size, 4, none⟩ = some (.slice B39 m40 d41) := keepc hb' c26_o48_4
  clear c26_o48_4 ac26_o48_4
  have c27_o48_5 : w27.cell? ⟨w11.heap.size, 5, none⟩ = some (.slice C43 k44 e45) := keepc hb' c26_o48_5
  clear c26_o48_5 ac26_o48_5
  have ac27_a0_0 := fun o => keepa o c27_a0_0
  have ac27_a0_1 := fun o => keepa o c27_a0_1
  have ac27_a0_2 := fun o => keepa o c27_a0_2
  have ac27_o29_0 := fun o => keepa o c27_o29_0
  have ac27_o29_1 := fun o => keepa o c27_o29_1
  have ac27_o29_2 := fun o => keepa o c27_o29_2
  have ac27_o29_3 := fun o => keepa o c27_o29_3
  have ac27_o29_4 := fun o => keepa o c27_o29_4
  have ac27_o29_5 := fun o => keepa o c27_o29_5
  have ac27_o31_0 := fun o => keepa o c27_o31_0
  have ac27_o31_1 := fun o => keepa o c27_o31_1
  have ac27_o31_2 := fun o => keepa o c27_o31_2
  have ac27_o48_0 := fun o => keepa o c27_o48_0
  have ac27_o48_1 := fun o => keepa o c27_o48_1
  have ac27_o48_2 := fun o => keepa o c27_o48_2
  have ac27_o48_3 := fun o => keepa o c27_o48_3
  have ac27_o48_4 := fun o => keepa o c27_o48_4
  have ac27_o48_5 := fun o => keepa o c27_o48_5
  have rP0 := P0.out.below hb'; clear P0; have P0 := Lib.hid rP0; clear rP0
  have rP2 := P2.out.below hb'; clear P2; have P2 := Lib.hid rP2; clear rP2
  have rP3 := P3.out.below hb'; clear P3; have P3 := Lib.hid rP3; clear rP3
  have rP4 := P4.out.below hb'; clear P4; have P4 := Lib.hid rP4; clear rP4
  have rFo12 := Fo12.out.below hb'; clear Fo12; have Fo12 := Lib.hid rFo12; clear rFo12
  have rFo13 := Fo13.out.below hb'; clear Fo13; have Fo13 := Lib.hid rFo13; clear rFo13
  have rFo14 := Fo14.out.below hb'; clear Fo14; have Fo14 := Lib.hid rFo14; clear rFo14
  have rFo15 := Fo15.out.below hb'; clear Fo15; have Fo15 := Lib.hid rFo15; clear rFo15
  have rFo29 := Fo29.out.below hb'; clear Fo29; have Fo29 := Lib.hid rFo29; clear rFo29
  have rFo31 := Fo31.out.below hb'; clear Fo31; have Fo31 := Lib.hid rFo31; clear rFo31
  have rFo32 := Fo32.out.below hb'; clear Fo32; have Fo32 := Lib.hid rFo32; clear rFo32
  have rFo33 := Fo33.out.below hb'; clear Fo33; have Fo33 := Lib.hid rFo33; clear rFo33
  have rFo34 := Fo34.out.below hb'; clear Fo34; have Fo34 := Lib.hid rFo34; clear rFo34
  have rFo48 := Fo48.out.below hb'; clear Fo48; have Fo48 := Lib.hid rFo48; clear rFo48
  have rFo51 := Fo51.out.below hb'; clear Fo51; have Fo51 := Lib.hid rFo51; clear rFo51
  have rFo52 := Fo52.out.below hb'; clear Fo52; have Fo52 := Lib.hid rFo52; clear rFo52
  have rFo53 := Fo53.out.below hb'; clear Fo53; have Fo53 := Lib.hid rFo53; clear rFo53
  have rB := below_chain B.out (by omega) hb'; clear B; have B := Lib.hid rB; clear rB
  clear hb hb'
  go_wp2_with fail
  refine (toMachine_c _ _ _ _ _ _ _ (by exact (P0.out.rd)) (by omega)).mono ?_
  rintro e w28 ⟨g054, rfl, q28, hb⟩
  have hb' : Below w27.heap.size w27 w28 := (by first | (with_reducible exact hb) | (with_reducible exact up1 hb) | (with_reducible exact up2 hb) | (with_reducible exact up3 hb) | (with_reducible exact up4 hb) | (with_reducible exact below_of_drew hb) | (with_reducible exact below_of_drew (up1 hb)))
  have z28 := hb'.size
  have c28_a0_0 : w28.cell? ⟨w.heap.size, 0, none⟩ = some (.int .i64 sy0) := keepc hb' c27_a0_0
  clear c27_a0_0 ac27_a0_0
  have c28_a0_1 : w28.cell? ⟨w.heap.size, 1, none⟩ = some (.int .i64 st0) := keepc hb' c27_a0_1
  clear c27_a0_1 ac27_a0_1
  have c28_a0_2 : w28.cell? ⟨w.heap.size, 2, none⟩ = some (.slice A0 n0 c0) := keepc hb' c27_a0_2
  clear c27_a0_2 ac27_a0_2
  have c28_o29_0 : w28.cell? ⟨w6.heap.size, 0, none⟩ = some (.int .i64 (rpR sy0 st0 xs0 x1 xs2 xs3 xs4).1.1) := keepc hb' c27_o29_0
  clear c27_o29_0 ac27_o29_0
  have c28_o29_1 : w28.cell? ⟨w6.heap.size, 1, none⟩ = some (.int .i64 (rpR sy0 st0 xs0 x1 xs2 xs3 xs4).1.2.1) := keepc hb' c27_o29_1
  clear c27_o29_1 ac27_o29_1
  have c28_o29_2 : w28.cell? ⟨w6.heap.size, 2, none⟩ = some (.int .i64 (rpR sy0 st0 xs0 x1 xs2 xs3 xs4).1.2.2.1) := keepc hb' c27_o29_2
  clear c27_o29_2 ac27_o29_2
  have c28_o29_3 : w28.cell? ⟨w6.heap.size, 3, none⟩ = some (.slice A16 n17 c18) := keepc hb' c27_o29_3
  clear c27_o29_3 ac27_o29_3
  have c28_o29_4 : w28.cell? ⟨w6.heap.size, 4, none⟩ = some (.slice B20 m21 d22) := keepc hb' c27_o29_4
  clear c27_o29_4 ac27_o29_4
  have c28_o29_5 : w28.cell? ⟨w6.heap.size, 5, none⟩ = some (.slice C24 k25 e26) := keepc hb' c27_o29_5
  clear c27_o29_5 ac27_o29_5
  have c28_o31_0 : w28.cell? ⟨w7.heap.size, 0, none⟩ = some (.int .i64 sy0) := keepc hb' c27_o31_0
  clear c27_o31_0 ac27_o31_0
  have c28_o31_1 : w28.cell? ⟨w7.heap.size, 1, none⟩ = some (.int .i64 st0) := keepc hb' c27_o31_1
  clear c27_o31_1 ac27_o31_1
  have c28_o31_2 : w28.cell? ⟨w7.heap.size, 2, none⟩ = some (.slice (some ⟨g030, 0, none⟩) n0 n0) := keepc hb' c27_o31_2
  clear c27_o31_2 ac27_o31_2
  have c28_o48_0 : w28.cell? ⟨w11.heap.size, 0, none⟩ = some (.int .i64 (rpR sy0 st0 xs0 x1 xs2 xs3 xs4).1.1) := keepc hb' c27_o48_0
  clear c27_o48_0 ac27_o48_0
  have c28_o48_1 : w28.cell? ⟨w11.heap.size, 1, none⟩ = some (.int .i64 (rpR sy0 st0 xs0 x1 xs2 xs3 xs4).1.2.1) := keepc hb' c27_o48_1
  clear c27_o48_1 ac27_o48_1
  have c28_o48_2 : w28.cell? ⟨w11.heap.size, 2, none⟩ = some (.int .i64 (rpR sy0 st0 xs0 x1 xs2 xs3 xs4).1.2.2.1) := keepc hb' c27_o48_2
  clear c27_o48_2 ac27_o48_2
  have c28_o48_3 : w28.cell? ⟨w11.heap.size, 3, none⟩ = some (.slice A35 n36 c37) := keepc hb' c27_o48_3
  clear c27_o48_3 ac27_o48_3
  have c28_o48_4 : w28.cell? ⟨w11.heap.size, 4, none⟩ = some (.slice B39 m40 d41) := keepc hb' c27_o48_4
  clear c27_o48_4 ac27_o48_4
  have c28_o48_5 : w28.cell? ⟨w11.heap.size, 5, none⟩ = some (.slice C43 k44 e45) := keepc hb' c27_o48_5
  clear c27_o48_5 ac27_o48_5
  have ac28_a0_0 := fun o => keepa o c28_a0_0
  have ac28_a0_1 := fun o => keepa o c28_a0_1
  have ac28_a0_2 := fun o => keepa o c28_a0_2
  have ac28_o29_0 := fun o => keepa o c28_o29_0
  have ac28_o29_1 := fun o => keepa o c28_o29_1
  have ac28_o29_2 := fun o => keepa o c28_o29_2
  have ac28_o29_3 := fun o => keepa o c28_o29_3
  have ac28_o29_4 := fun o => keepa o c28_o29_4
  have ac28_o29_5 := fun o => keepa o c28_o29_5
  have ac28_o31_0 := fun o => keepa o c28_o31_0
  have ac28_o31_1 := fun o => keepa o c28_o31_1
  have ac28_o31_2 := fun o => keepa o c28_o31_2
  have ac28_o48_0 := fun o => keepa o c28_o48_0
  have ac28_o48_1 := fun o => keepa o c28_o48_1
  have ac28_o48_2 := fun o => keepa o c28_o48_2
  have ac28_o48_3 := fun o => keepa o c28_o48_3
  have ac28_o48_4 := fun o => keepa o c28_o48_4
  have ac28_o48_5 := fun o => keepa o c28_o48_5
  have rP0 := P0.out.below hb'; clear P0; have P0 := Lib.hid rP0; clear rP0
  have rP2 := P2.out.below hb'; clear P2; have P2 := Lib.hid rP2; clear rP2
  have rP3 := P3.out.below hb'; clear P3; have P3 := Lib.hid rP3; clear rP3
  have rP4 := P4.out.below hb'; clear P4; have P4 := Lib.hid rP4; clear rP4
  have rFo12 := Fo12.out.below hb'; clear Fo12; have Fo12 := Lib.hid rFo12; clear rFo12
  have rFo13 := Fo13.out.below hb'; clear Fo13; have Fo13 := Lib.hid rFo13; clear rFo13
  have rFo14 := Fo14.out.below hb'; clear Fo14; have Fo14 := Lib.hid rFo14; clear rFo14
  have rFo15 := Fo15.out.below hb'; clear Fo15; have Fo15 := Lib.hid rFo15; clear rFo15
  have rFo29 := Fo29.out.below hb'; clear Fo29; have Fo29 := Lib.hid rFo29; clear rFo29
  have rFo31 := Fo31.out.below hb'; clear Fo31; have Fo31 := Lib.hid rFo31; clear rFo31
  have rFo32 := Fo32.out.below hb'; clear Fo32; have Fo32 := Lib.hid rFo32; clear rFo32
  have rFo33 := Fo33.out.below hb'; clear Fo33; have Fo33 := Lib.hid rFo33; clear rFo33
  have rFo34 := Fo34.out.below hb'; clear Fo34; have Fo34 := Lib.hid rFo34; clear rFo34
  have rFo48 := Fo48.out.below hb'; clear Fo48; have Fo48 := Lib.hid rFo48; clear rFo48
  have rFo51 := Fo51.out.below hb'; clear Fo51; have Fo51 := Lib.hid rFo51; clear rFo51
  have rFo52 := Fo52.out.below hb'; clear Fo52; have Fo52 := Lib.hid rFo52; clear rFo52
  have rFo53 := Fo53.out.below hb'; clear Fo53; have Fo53 := Lib.hid rFo53; clear rFo53
  have rB := below_chain B.out (by omega) hb'; clear B; have B := Lib.hid rB; clear rB
  have Fo55 := Lib.hid q28; clear q28
  clear hb hb'
  go_wp2_with fail
  refine (toInt64S_c _ _ _ _ _ (by exact (P2.out.1)) (by omega)).mono ?_
  rintro e w29 ⟨rfl, q29, hb⟩
  have hb' : Below w28.heap.size w28 w29 := (by first | (with_reducible exact hb) | (with_reducible exact up1 hb) | (with_reducible exact up2 hb) | (with_reducible exact up3 hb) | (with_reducible exact up4 hb) | (with_reducible exact below_of_drew hb) | (with_reducible exact below_of_drew (up1 hb)))
  have z29 := hb'.size
  have c29_a0_0 : w29.cell? ⟨w.heap.size, 0, none⟩ = some (.int .i64 sy0) := keepc hb' c28_a0_0
  clear c28_a0_0 ac28_a0_0
  have c29_a0_1 : w29.cell? ⟨w.heap.size, 1, none⟩ = some (.int .i64 st0) := keepc hb' c28_a0_1
  clear c28_a0_1 ac28_a0_1
  have c29_a0_2 : w29.cell? ⟨w.heap.size, 2, none⟩ = some (.slice A0 n0 c0) := keepc hb' c28_a0_2
  clear c28_a0_2 ac28_a0_2
  have c29_o29_0 : w29.cell? ⟨w6.heap.size, 0, none⟩ = some (.int .i64 (rpR sy0 st0 xs0 x1 xs2 xs3 xs4).1.1) := keepc hb' c28_o29_0
  clear c28_o29_0 ac28_o29_0
  have c29_o29_1 : w29.cell? ⟨w6.heap.size, 1, none⟩ = some (.int .i64 (rpR sy0 st0 xs0 x1 xs2 xs3 xs4).1.2.1) := keepc hb' c28_o29_1
  clear c28_o29_1 ac28_o29_1
  have c29_o29_2 : w29.cell? ⟨w6.heap.size, 2, none⟩ = some (.int .i64 (rpR sy0 st0 xs0 x1 xs2 xs3 xs4).1.2.2.1) := keepc hb' c28_o29_2
  clear c28_o29_2 ac28_o29_2
  have c29_o29_3 : w29.cell? ⟨w6.heap.size, 3, none⟩ = some (.slice A16 n17 c18) := keepc hb' c28_o29_3
  clear c28_o29_3 ac28_o29_3
  have c29_o29_4 : w29.cell? ⟨w6.heap.size, 4, none⟩ = some (.slice B20 m21 d22) := keepc hb' c28_o29_4
  clear c28_o29_4 ac28_o29_4
  have c29_o29_5 : w29.cell? ⟨w6.heap.size, 5, none⟩ = some (.slice C24 k25 e26) := keepc hb' c28_o29_5
  clear c28_o29_5 ac28_o29_5
  have c29_o31_0 : w29.cell? ⟨w7.heap.size, 0, none⟩ = some (.int .i64 sy0) := keepc hb' c28_o31_0
  clear c28_o31_0 ac28_o31_0
  have c29_o31_1 : w29.cell? ⟨w7.heap.size, 1, none⟩ = some (.int .i64 st0) := keepc hb' c28_o31_1
  clear c28_o31_1 ac28_o31_1
  have c29_o31_2 : w29.cell? ⟨w7.heap.size, 2, none⟩ = some (.slice (some ⟨g030, 0, none⟩) n0 n0) := keepc hb' c28_o31_2
  clear c28_o31_2 ac28_o31_2
  have c29_o48_0 : w29.cell? ⟨w11.heap.size, 0, none⟩ = some (.int .i64 (rpR sy0 st0 xs0 x1 xs2 xs3 xs4).1.1) := keepc hb' c28_o48_0
  clear c28_o48_0 ac28_o48_0
  have c29_o48_1 : w29.cell? ⟨w11.heap.size, 1, none⟩ = some (.int .i64 (rpR sy0 st0 xs0 x1 xs2 xs3 xs4).1.2.1) := keepc hb' c28_o48_1
  clear c28_o48_1 ac28_o48_1
  have c29_o48_2 : w29.cell? ⟨w11.heap.size, 2, none⟩ = some (.int .i64 (rpR sy0 st0 xs0 x1 xs2 xs3 xs4).1.2.2.1) := keepc hb' c28_o48_2
  clear c28_o48_2 ac28_o48_2
  have c29_o48_3 : w29.cell? ⟨w11.heap.size, 3, none⟩ = some (.slice A35 n36 c37) := keepc hb' c28_o48_3
  clear c28_o48_3 ac28_o48_3
  have c29_o48_4 : w29.cell? ⟨w11.heap.size, 4, none⟩ = some (.slice B39 m40 d41) := keepc hb' c28_o48_4
  clear c28_o48_4 ac28_o48_4
  have c29_o48_5 : w29.cell? ⟨w11.heap.size, 5, none⟩ = some (.slice C43 k44 e45) := keepc hb' c28_o48_5
  clear c28_o48_5 ac28_o48_5
  have ac29_a0_0 := fun o => keepa o c29_a0_0
  have ac29_a0_1 := fun o => keepa o c29_a0_1
  have ac29_a0_2 := fun o => keepa o c29_a0_2
  have ac29_o29_0 := fun o => keepa o c29_o29_0
  have ac29_o29_1 := fun o => keepa o c29_o29_1
  have ac29_o29_2 := fun o => keepa o c29_o29_2
  have ac29_o29_3 := fun o => keepa o c29_o29_3
  have ac29_o29_4 := fun o => keepa o c29_o29_4
  have ac29_o29_5 := fun o => keepa o c29_o29_5
  have ac29_o31_0 := fun o => keepa o c29_o31_0
  have ac29_o31_1 := fun o => keepa o c29_o31_1
  have ac29_o31_2 := fun o => keepa o c29_o31_2
  have ac29_o48_0 := fun o => keepa o c29_o48_0
  have ac29_o48_1 := fun o => keepa o c29_o48_1
  have ac29_o48_2 := fun o => keepa o c29_o48_2
  have ac29_o48_3 := fun o => keepa o c29_o48_3
  have ac29_o48_4 := fun o => keepa o c29_o48_4
  have ac29_o48_5 := fun o => keepa o c29_o48_5
  have rP0 := P0.out.below hb'; clear P0; have P0 := Lib.hid rP0; clear rP0
  have rP2 := P2.out.below hb'; clear P2; have P2 := Lib.hid rP2; clear rP2
  have rP3 := P3.out.below hb'; clear P3; have P3 := Lib.hid rP3; clear rP3
  have rP4 := P4.out.below hb'; clear P4; have P4 := Lib.hid rP4; clear rP4
  have rFo12 := Fo12.out.below hb'; clear Fo12; have Fo12 := Lib.hid rFo12; clear rFo12
  have rFo13 := Fo13.out.below hb'; clear Fo13; have Fo13 := Lib.hid rFo13; clear rFo13
  have rFo14 := Fo14.out.below hb'; clear Fo14; have Fo14 := Lib.hid rFo14; clear rFo14
  have rFo15 := Fo15.out.below hb'; clear Fo15; have Fo15 := Lib.hid rFo15; clear rFo15
  have rFo29 := Fo29.out.below hb'; clear Fo29; have Fo29 := Lib.hid rFo29; clear rFo29
  have rFo31 := Fo31.out.below hb'; clear Fo31; have Fo31 := Lib.hid rFo31; clear rFo31
  have rFo32 := Fo32.out.below hb'; clear Fo32; have Fo32 := Lib.hid rFo32; clear rFo32
  have rFo33 := Fo33.out.below hb'; clear Fo33; have Fo33 := Lib.hid rFo33; clear rFo33
  have rFo34 := Fo34.out.below hb'; clear Fo34; have Fo34 := Lib.hid rFo34; clear rFo34
  have rFo48 := Fo48.out.below hb'; clear Fo48; have Fo48 := Lib.hid rFo48; clear rFo48
  have rFo51 := Fo51.out.below hb'; clear Fo51; have Fo51 := Lib.hid rFo51; clear rFo51
  have rFo52 := Fo52.out.below hb'; clear Fo52; have Fo52 := Lib.hid rFo52; clear rFo52
  have rFo53 := Fo53.out.below hb'; clear Fo53; have Fo53 := Lib.hid rFo53; clear rFo53
  have rFo55 := Fo55.out.below hb'; clear Fo55; have Fo55 := Lib.hid rFo55; clear rFo55
  have rB := below_chain B.out (by omega) hb'; clear B; have B := Lib.hid rB; clear rB
  have Fo56 := Lib.hid q29; clear q29
  clear hb hb'
  go_wp2_with fail
  refine (toInt64S_c _ _ _ _ _ (by exact (P3.out.1)) (by omega)).mono ?_
  rintro e w30 ⟨rfl, q30, hb⟩
  have hb' : Below w29.heap.size w29 w30 := (by first | (with_reducible exact hb) | (with_reducible exact up1 hb) | (with_reducible exact up2 hb) | (with_reducible exact up3 hb) | (with_reducible exact up4 hb) | (with_reducible exact below_of_drew hb) | (with_reducible exact below_of_drew (up1 hb)))
  have z30 := hb'.size
  have c30_a0_0 : w30.cell? ⟨w.heap.size, 0, none⟩ = some (.int .i64 sy0) := keepc hb' c29_a0_0
  clear c29_a0_0 ac29_a0_0
  have c30_a0_1 : w30.cell? ⟨w.heap.size, 1, none⟩ = some (.int .i64 st0) := keepc hb' c29_a0_1
  clear c29_a0_1 ac29_a0_1
  have c30_a0_2 : w30.cell? ⟨w.heap.size, 2, none⟩ = some (.slice A0 n0 c0) := keepc hb' c29_a0_2
  clear c29_a0_2 ac29_a0_2
  have c30_o29_0 : w30.cell? ⟨w6.heap.size, 0, none⟩ = some (.int .i64 (rpR sy0 st0 xs0 x1 xs2 xs3 xs4).1.1) := keepc hb' c29_o29_0
  clear c29_o29_0 ac29_o29_0
  have c30_o29_1 : w30.cell? ⟨w6.heap.size, 1, none⟩ = some (.int .i64 (rpR sy0 st0 xs0 x1 xs2 xs3 xs4).1.2.1) := keepc hb' c29_o29_1
  clear c29_o29_1 ac29_o29_1
  have c30_o29_2 : w30.cell? ⟨w6.heap.size, 2, none⟩ = some (.int .i64 (rpR sy0 st0 xs0 x1 xs2 xs3 xs4).1.2.2.1) := keepc hb' c29_o29_2
  clear c29_o29_2 ac29_o29_2
  have c30_o29_3 : w30.cell? ⟨w6.heap.size, 3, none⟩ = some (.slice A16 n17 c18) := keepc hb' c29_o29_3
  clear c29_o29_3 ac29_o29_3
  have c30_o29_4 : w30.cell? ⟨w6.heap.size, 4, none⟩ = some (.slice B20 m21 d22) := keepc hb' c29_o29_4
  clear c29_o29_4 ac29_o29_4
  have c30_o29_5 : w30.cell? ⟨w6.heap.size, 5, none⟩ = some (.slice C24 k25 e26) := keepc hb' c29_o29_5
  clear c29_o29_5 ac29_o29_5
  have c30_o31_0 : w30.cell? ⟨w7.heap.size, 0, none⟩ = some (.int .i64 sy0) := keepc hb' c29_o31_0
  clear c29_o31_0 ac29_o31_0
  have c30_o31_1 : w30.cell? ⟨w7.heap.size, 1, none⟩ = some (.int .i64 st0) := keepc hb' c29_o31_1
  clear c29_o31_1 ac29_o31_1
  have c30_o31_2 : w30.cell? ⟨w7.heap.size, 2, none⟩ = some (.slice (some ⟨g030, 0, none⟩) n0 n0) := keepc hb' c29_o31_2
  clear c29_o31_2 ac29_o31_2
  have c30_o48_0 : w30.cell? ⟨w11.heap.size, 0, none⟩ = some (.int .i64 (rpR sy0 st0 xs0 x1 xs2 xs3 xs4).1.1) := keepc hb' c29_o48_0
  clear c29_o48_0 ac29_o48_0
  have c30_o48_1 : w30.cell? ⟨w11.heap.size, 1, none⟩ = some (.int .i64 (rpR sy0 st0 xs0 x1 xs2 xs3 xs4).1.2.1) := keepc hb' c29_o48_1
  clear c29_o48_1 ac29_o48_1
  have c30_o48_2 : w30.cell? ⟨w11.heap.size, 2, none⟩ = some (.int .i64 (rpR sy0 st0 xs0 x1 xs2 xs3 xs4).1.2.2.1) := keepc hb' c29_o48_2
  clear c29_o48_2 ac29_o48_2
  have c30_o48_3 : w30.cell? ⟨w11.heap.size, 3, none⟩ = some (.slice A35 n36 c37) := keepc hb' c29_o48_3
  clear c29_o48_3 ac29_o48_3
  have c30_o48_4 : w30.cell? ⟨w11.heap.size, 4, none⟩ = some (.slice B39 m40 d41) := keepc hb' c29_o48_4
  clear c29_o48_4 ac29_o48_4
  have c30_o48_5 : w30.cell? ⟨w11.heap.size, 5, none⟩ = some (.slice C43 k44 e45) := keepc hb' c29_o48_5
  clear c29_o48_5 ac29_o48_5
  have ac30_a0_0 := fun o => keepa o c30_a0_0
  have ac30_a0_1 := fun o => keepa o c30_a0_1
  have ac30_a0_2 := fun o => keepa o c30_a0_2
  have ac30_o29_0 := fun o => keepa o c30_o29_0
  have ac30_o29_1 := fun o => keepa o c30_o29_1
  have ac30_o29_2 := fun o => keepa o c30_o29_2
  have ac30_o29_3 := fun o => keepa o c30_o29_3
  have ac30_o29_4 := fun o => keepa o c30_o29_4
  have ac30_o29_5 := fun o => keepa o c30_o29_5
  have ac30_o31_0 := fun o => keepa o c30_o31_0
  have ac30_o31_1 := fun o => keepa o c30_o31_1
  have ac30_o31_2 := fun o => keepa o c30_o31_2
  have ac30_o48_0 := fun o => keepa o c30_o48_0
  have ac30_o48_1 := fun o => keepa o c30_o48_1
  have ac30_o48_2 := fun o => keepa o c30_o48_2
  have ac30_o48_3 := fun o => keepa o c30_o48_3
  have ac30_o48_4 := fun o => keepa o c30_o48_4
  have ac30_o48_5 := fun o => keepa o c30_o48_5
  have rP0 := P0.out.below hb'; clear P0; have P0 := Lib.hid rP0; clear rP0
  have rP2 := P2.out.below hb'; clear P2; have P2 := Lib.hid rP2; clear rP2
  have rP3 := P3.out.below hb'; clear P3; have P3 := Lib.hid rP3; clear rP3
  have rP4 := P4.out.below hb'; clear P4; have P4 := Lib.hid rP4; clear rP4
  have rFo12 := Fo12.out.below hb'; clear Fo12; have Fo12 := Lib.hid rFo12; clear rFo12
  have rFo13 := Fo13.out.below hb'; clear Fo13; have Fo13 := Lib.hid rFo13; clear rFo13
  have rFo14 := Fo14.out.below hb'; clear Fo14; have Fo14 := Lib.hid rFo14; clear rFo14
  have rFo15 := Fo15.out.below hb'; clear Fo15; have Fo15 := Lib.hid rFo15; clear rFo15
  have rFo29 := Fo29.out.below hb'; clear Fo29; have Fo29 := Lib.hid rFo29; clear rFo29
  have rFo31 := Fo31.out.below hb'; clear Fo31; have Fo31 := Lib.hid rFo31; clear rFo31
  have rFo32 := Fo32.out.below hb'; clear Fo32; have Fo32 := Lib.hid rFo32; clear rFo32
  have rFo33 := Fo33.out.below hb'; clear Fo33; have Fo33 := Lib.hid rFo33; clear rFo33
  have rFo34 := Fo34.out.below hb'; clear Fo34; have Fo34 := Lib.hid rFo34; clear rFo34
  have rFo48 := Fo48.out.below hb'; clear Fo48; have Fo48 := Lib.hid rFo48; clear rFo48
  have rFo51 := Fo51.out.below hb'; clear Fo51; have Fo51 := Lib.hid rFo51; clear rFo51
  have rFo52 := Fo52.out.below hb'; clear Fo52; have Fo52 := Lib.hid rFo52; clear rFo52
  have rFo53 := Fo53.out.below hb'; clear Fo53; have Fo53 := Lib.hid rFo53; clear rFo53
  have rFo55 := Fo55.out.below hb'; clear Fo55; have Fo55 := Lib.hid rFo55; clear rFo55
  have rFo56 := Fo56.out.below hb'; clear Fo56; have Fo56 := Lib.hid rFo56; clear rFo56
  have rB := below_chain B.out (by omega) hb'; clear B; have B := Lib.hid rB; clear rB
  have Fo57 := Lib.hid q30; clear q30
  clear hb hb'
  go_wp2_with fail
  refine (toInt64S_c _ _ _ _ _ (by exact (P4.out.1)) (by omega)).mono ?_
  rintro e w31 ⟨rfl, q31, hb⟩
  have hb' : Below w30.heap.size w30 w31 := (by first | (with_reducible exact hb) | (with_reducible exact up1 hb) | (with_reducible exact up2 hb) | (with_reducible exact up3 hb) | (with_reducible exact up4 hb) | (with_reducible exact below_of_drew hb) | (with_reducible exact below_of_drew (up1 hb)))
  have z31 := hb'.size
  have c31_a0_0 : w31.cell? ⟨w.heap.size, 0, none⟩ = some (.int .i64 sy0) := keepc hb' c30_a0_0
  clear c30_a0_0 ac30_a0_0
  have c31_a0_1 : w31.cell? ⟨w.heap.size, 1, none⟩ = some (.int .i64 st0) := keepc hb' c30_a0_1
  clear c30_a0_1 ac30_a0_1
  have c31_a0_2 : w31.cell? ⟨w.heap.size, 2, none⟩ = some (.slice A0 n0 c0) := keepc hb' c30_a0_2
  clear c30_a0_2 ac30_a0_2
  have c31_o29_0 : w31.cell? ⟨w6.heap.size, 0, none⟩ = some (.int .i64 (rpR sy0 st0 xs0 x1 xs2 xs3 xs4).1.1) := keepc hb' c30_o29_0
  clear c30_o29_0 ac30_o29_0
  have c31_o29_1 : w31.cell? ⟨w6.heap.size, 1, none⟩ = some (.int .i64 (rpR sy0 st0 xs0 x1 xs2 xs3 xs4).1.2.1) := keepc hb' c30_o29_1
  clear c30_o29_1 ac30_o29_1
  have c31_o29_2 : w31.cell? ⟨w6.heap.size, 2, none⟩ = some (.int .i64 (rpR sy0 st0 xs0 x1 xs2 xs3 xs4).1.2.2.1) := keepc hb' c30_o29_2
  clear c30_o29_2 ac30_o29_2
  have c31_o29_3 : w31.cell? ⟨w6.heap.size, 3, none⟩ = some (.slice A16 n17 c18) := keepc hb' c30_o29_3
  clear c30_o29_3 ac30_o29_3
  have c31_o29_4 : w31.cell? ⟨w6.heap.size, 4, none⟩ = some (.slice B20 m21 d22) := keepc hb' c30_o29_4
  clear c30_o29_4 ac30_o29_4
  have c31_o29_5 : w31.cell? ⟨w6.heap.size, 5, none⟩ = some (.slice C24 k25 e26) := keepc hb' c30_o29_5
  clear c30_o29_5 ac30_o29_5
  have c31_o31_0 : w31.cell? ⟨w7.heap.size, 0, none⟩ = some (.int .i64 sy0) := keepc hb' c30_o31_0
  clear c30_o31_0 ac30_o31_0
  have c31_o31_1 : w31.cell? ⟨w7.heap.size, 1, none⟩ = some (.int .i64 st0) := keepc hb' c30_o31_1
  clear c30_o31_1 ac30_o31_1
  have c31_o31_2 : w31.cell? ⟨w7.heap.size, 2, none⟩ = some (.slice (some ⟨g030, 0, none⟩) n0 n0) := keepc hb' c30_o31_2
  clear c30_o31_2 ac30_o31_2
  have c31_o48_0 : w31.cell? ⟨w11.heap.size, 0, none⟩ = some (.int .i64 (rpR sy0 st0 xs0 x1 xs2 xs3 xs4).1.1) := keepc hb' c30_o48_0
  clear c30_o48_0 ac30_o48_0
  have c31_o48_1 : w31.cell? ⟨w11.heap.size, 1, none⟩ = some (.int .i64 (rpR sy0 st0 xs0 x1 xs2 xs3 xs4).1.2.1) := keepc hb' c30_o48_1
  clear c30_o48_1 ac30_o48_1
  have c31_o48_2 : w31.cell? ⟨w11.heap.size, 2, none⟩ = some (.int .i64 (rpR sy0 st0 xs0 x1 xs2 xs3 xs4).1.2.2.1) := keepc hb' c30_o48_2
  clear c30_o48_2 ac30_o48_2
  have c31_o48_3 : w31.cell? ⟨w11.heap.size, 3, none⟩ = some (.slice A35 n36 c37) := keepc hb' c30_o48_3
  clear c30_o48_3 ac30_o48_3
  have c31_o48_4 : w31.cell? ⟨w11.heap.size, 4, none⟩ = some (.slice B39 m40 d41) := keepc hb' c30_o48_4
  clear c30_o48_4 ac30_o48_4
  have c31_o48_5 : w31.cell? ⟨w11.heap.size, 5, none⟩ = some (.slice C43 k44 e45) := keepc hb' c30_o48_5
  clear c30_o48_5 ac30_o48_5
  have ac31_a0_0 := fun o => keepa o c31_a0_0
  have ac31_a0_1 := fun o => keepa o c31_a0_1
  have ac31_a0_2 := fun o => keepa o c31_a0_2
  have ac31_o29_0 := fun o => keepa o c31_o29_0
  have ac31_o29_1 := fun o => keepa o c31_o29_1
  have ac31_o29_2 := fun o => keepa o c31_o29_2
  have ac31_o29_3 := fun o => keepa o c31_o29_3
  have ac31_o29_4 := fun o => keepa o c31_o29_4
  have ac31_o29_5 := fun o => keepa o c31_o29_5
  have ac31_o31_0 := fun o => keepa o c31_o31_0
  have ac31_o31_1 := fun o => keepa o c31_o31_1
  have ac31_o31_2 := fun o => keepa o c31_o31_2
  have ac31_o48_0 := fun o => keepa o c31_o48_0
  have ac31_o48_1 := fun o => keepa o c31_o48_1
  have ac31_o48_2 := fun o => keepa o c31_o48_2
  have ac31_o48_3 := fun o => keepa o c31_o48_3
  have ac31_o48_4 := fun o => keepa o c31_o48_4
  have ac31_o48_5 := fun o => keepa o c31_o48_5
  have rP0 := P0.out.below hb'; clear P0; have P0 := Lib.hid rP0; clear rP0
  have rP2 := P2.out.below hb'; clear P2; have P2 := Lib.hid rP2; clear rP2
  have rP3 := P3.out.below hb'; clear P3; have P3 := Lib.hid rP3; clear rP3
  have rP4 := P4.out.below hb'; clear P4; have P4 := Lib.hid rP4; clear rP4
  have rFo12 := Fo12.out.below hb'; clear Fo12; have Fo12 := Lib.hid rFo12; clear rFo12
  have rFo13 := Fo13.out.below hb'; clear Fo13; have Fo13 := Lib.hid rFo13; clear rFo13
  have rFo14 := Fo14.out.below hb'; clear Fo14; have Fo14 := Lib.hid rFo14; clear rFo14
  have rFo15 := Fo15.out.below hb'; clear Fo15; have Fo15 := Lib.hid rFo15; clear rFo15
  have rFo29 := Fo29.out.below hb'; clear Fo29; have Fo29 := Lib.hid rFo29; clear rFo29
  have rFo31 := Fo31.out.below hb'; clear Fo31; have Fo31 := Lib.hid rFo31; clear rFo31
  have rFo32 := Fo32.out.below hb'; clear Fo32; have Fo32 := Lib.hid rFo32; clear rFo32
  have rFo33 := Fo33.out.below hb'; clear Fo33; have Fo33 := Lib.hid rFo33; clear rFo33
  have rFo34 := Fo34.out.below hb'; clear Fo34; have Fo34 := Lib.hid rFo34; clear rFo34
  have rFo48 := Fo48.out.below hb'; clear Fo48; have Fo48 := Lib.hid rFo48; clear rFo48
  have rFo51 := Fo51.out.below hb'; clear Fo51; have Fo51 := Lib.hid rFo51; clear rFo51
  have rFo52 := Fo52.out.below hb'; clear Fo52; have Fo52 := Lib.hid rFo52; clear rFo52
  have rFo53 := Fo53.out.below hb'; clear Fo53; have Fo53 := Lib.hid rFo53; clear rFo53
  have rFo55 := Fo55.out.below hb'; clear Fo55; have Fo55 := Lib.hid rFo55; clear rFo55
  have rFo56 := Fo56.out.below hb'; clear Fo56; have Fo56 := Lib.hid rFo56; clear rFo56
  have rFo57 := Fo57.out.below hb'; clear Fo57; have Fo57 := Lib.hid rFo57; clear rFo57
  have rB := below_chain B.out (by omega) hb'; clear B; have B := Lib.hid rB; clear rB
  have Fo58 := Lib.hid q31; clear q31
  clear hb hb'
  go_wp2_with fail
  refine (iRepeatsIn_c _ _ _ _ _ _ _ _ _ _ _ _ _ _ _ _ _ _ (by exact (Fo55.out.rd)) (by exact (Fo56.out.rdI)) (by exact (Fo57.out.rdI)) (by exact (Fo58.out.rdI)) (by omega) (by omega) (by omega) (by omega)).mono ?_
  rintro e w32 ⟨A59, n60, c61, its62, B63, m64, d65, jts66, C67, k68, e69, rfl, q70, l71, hb⟩
  have hb' : Below w31.heap.size w31 w32 := (by first | (with_reducible exact hb) | (with_reducible exact up1 hb) | (with_reducible exact up2 hb) | (with_reducible exact up3 hb) | (with_reducible exact up4 hb) | (with_reducible exact below_of_drew hb) | (with_reducible exact below_of_drew (up1 hb)))
  have z32 := hb'.size
  have c32_a0_0 : w32.cell? ⟨w.heap.size, 0, none⟩ = some (.int .i64 sy0) := keepc hb' c31_a0_0
  clear c31_a0_0 ac31_a0_0
  have c32_a0_1 : w32.cell? ⟨w.heap.size, 1, none⟩ = some (.int .i64 st0) := keepc hb' c31_a0_1
  clear c31_a0_1 ac31_a0_1
  have c32_a0_2 : w32.cell? ⟨w.heap.size, 2, none⟩ = some (.slice A0 n0 c0) := keepc hb' c31_a0_2
  clear c31_a0_2 ac31_a0_2
  have c32_o29_0 : w32.cell? ⟨w6.heap.size, 0, none⟩ = some (.int .i64 (rpR sy0 st0 xs0 x1 xs2 xs3 xs4).1.1) := keepc hb' c31_o29_0
  clear c31_o29_0 ac31_o29_0
  have c32_o29_1 : w32.cell? ⟨w6.heap.size, 1, none⟩ = some (.int .i64 (rpR sy0 st0 xs0 x1 xs2 xs3 xs4).1.2.1) := keepc hb' c31_o29_1
  clear c31_o29_1 ac31_o29_1
  have c32_o29_2 : w32.cell? ⟨w6.heap.size, 2, none⟩ = some (.int .i64 (rpR sy0 st0 xs0 x1 xs2 xs3 xs4).1.2.2.1) := keepc hb' c31_o29_2
  clear c31_o29_2 ac31_o29_2
  have c32_o29_3 : w32.cell? ⟨w6.heap.size, 3, none⟩ = some (.slice A16 n17 c18) := keepc hb' c31_o29_3
  clear c31_o29_3 ac31_o29_3
  have c32_o29_4 : w32.cell? ⟨w6.heap.size, 4, none⟩ = some (.slice B20 m21 d22) := keepc hb' c31_o29_4
  clear c31_o29_4 ac31_o29_4
  have c32_o29_5 : w32.cell? ⟨w6.heap.size, 5, none⟩ = some (.slice C24 k25 e26) := keepc hb' c31_o29_5
  clear c31_o29_5 ac31_o29_5
  have c32_o31_0 : w32.cell? ⟨w7.heap.size, 0, none⟩ = some (.int .i64 sy0) := keepc hb' c31_o31_0
  clear c31_o31_0 ac31_o31_0
  have c32_o31_1 : w32.cell? ⟨w7.heap.size, 1, none⟩ = some (.int .i64 st0) := keepc hb' c31_o31_1
  clear c31_o31_1 ac31_o31_1
  have c32_o31_2 : w32.cell? ⟨w7.heap.size, 2, none⟩ = some (.slice (some ⟨g030, 0, none⟩) n0 n0) := keepc hb' c31_o31_2
  clear c31_o31_2 ac31_o31_2
  have c32_o48_0 : w32.cell? ⟨w11.heap.size, 0, none⟩ = some (.int .i64 (rpR sy0 st0 xs0 x1 xs2 xs3 xs4).1.1) := keepc hb' c31_o48_0
  clear c31_o48_0 ac31_o48_0
  have c32_o48_1 : w32.cell? ⟨w11.heap.size, 1, none⟩ = some (.int .i64 (rpR sy0 st0 xs0 x1 xs2 xs3 xs4).1.2.1) := keepc hb' c31_o48_1
  clear c31_o48_1 ac31_o48_1
  have c32_o48_2 : w32.cell? ⟨w11.heap.size, 2, none⟩ = some (.int .i64 (rpR sy0 st0 xs0 x1 xs2 xs3 xs4).1.2.2.1) := keepc hb' c31_o48_2
  clear c31_o48_2 ac31_o48_2
  have c32_o48_3 : w32.cell? ⟨w11.heap.size, 3, none⟩ = some (.slice A35 n36 c37) := keepc hb' c31_o48_3
  clear c31_o48_3 ac31_o48_3
  have c32_o48_4 : w32.cell? ⟨w11.heap.size, 4, none⟩ = some (.slice B39 m40 d41) := keepc hb' c31_o48_4
  clear c31_o48_4 ac31_o48_4
  have c32_o48_5 : w32.cell? ⟨w11.heap.size, 5, none⟩ = some (.slice C43 k44 e45) := keepc hb' c31_o48_5
  clear c31_o48_5 ac31_o48_5
  have ac32_a0_0 := fun o => keepa o c32_a0_0
  have ac32_a0_1 := fun o => keepa o c32_a0_1
  have ac32_a0_2 := fun o => keepa o c32_a0_2
  have ac32_o29_0 := fun o => keepa o c32_o29_0
  have ac32_o29_1 := fun o => keepa o c32_o29_1
  have ac32_o29_2 := fun o => keepa o c32_o29_2
  have ac32_o29_3 := fun o => keepa o c32_o29_3
  have ac32_o29_4 := fun o => keepa o c32_o29_4
  have ac32_o29_5 := fun o => keepa o c32_o29_5
  have ac32_o31_0 := fun o => keepa o c32_o31_0
  have ac32_o31_1 := fun o => keepa o c32_o31_1
  have ac32_o31_2 := fun o => keepa o c32_o31_2
  have ac32_o48_0 := fun o => keepa o c32_o48_0
  have ac32_o48_1 := fun o => keepa o c32_o48_1
  have ac32_o48_2 := fun o => keepa o c32_o48_2
  have ac32_o48_3 := fun o => keepa o c32_o48_3
  have ac32_o48_4 := fun o => keepa o c32_o48_4
  have ac32_o48_5 := fun o => keepa o c32_o48_5
  have rP0 := P0.out.below hb'; clear P0; have P0 := Lib.hid rP0; clear rP0
  have rP2 := P2.out.below hb'; clear P2; have P2 := Lib.hid rP2; clear rP2
  have rP3 := P3.out.below hb'; clear P3; have P3 := Lib.hid rP3; clear rP3
  have rP4 := P4.out.below hb'; clear P4; have P4 := Lib.hid rP4; clear rP4
  have rFo12 := Fo12.out.below hb'; clear Fo12; have Fo12 := Lib.hid rFo12; clear rFo12
  have rFo13 := Fo13.out.below hb'; clear Fo13; have Fo13 := Lib.hid rFo13; clear rFo13
  have rFo14 := Fo14.out.below hb'; clear Fo14; have Fo14 := Lib.hid rFo14; clear rFo14
  have rFo15 := Fo15.out.below hb'; clear Fo15; have Fo15 := Lib.hid rFo15; clear rFo15
  have rFo29 := Fo29.out.below hb'; clear Fo29; have Fo29 := Lib.hid rFo29; clear rFo29
  have rFo31 := Fo31.out.below hb'; clear Fo31; have Fo31 := Lib.hid rFo31; clear rFo31
  have rFo32 := Fo32.out.below hb'; clear Fo32; have Fo32 := Lib.hid rFo32; clear rFo32
  have rFo33 := Fo33.out.below hb'; clear Fo33; have Fo33 := Lib.hid rFo33; clear rFo33
  have rFo34 := Fo34.out.below hb'; clear Fo34; have Fo34 := Lib.hid rFo34; clear rFo34
  have rFo48 := Fo48.out.below hb'; clear Fo48; have Fo48 := Lib.hid rFo48; clear rFo48
  have rFo51 := Fo51.out.below hb'; clear Fo51; have Fo51 := Lib.hid rFo51; clear rFo51
  have rFo52 := Fo52.out.below hb'; clear Fo52; have Fo52 := Lib.hid rFo52; clear rFo52
  have rFo53 := Fo53.out.below hb'; clear Fo53; have Fo53 := Lib.hid rFo53; clear rFo53
  have rFo55 := Fo55.out.below hb'; clear Fo55; have Fo55 := Lib.hid rFo55; clear rFo55
  have rFo56 := Fo56.out.below hb'; clear Fo56; have Fo56 := Lib.hid rFo56; clear rFo56
  have rFo57 := Fo57.out.below hb'; clear Fo57; have Fo57 := Lib.hid rFo57; clear rFo57
  have rFo58 := Fo58.out.below hb'; clear Fo58; have Fo58 := Lib.hid rFo58; clear rFo58
  have rB := below_chain B.out (by omega) hb'; clear B; have B := Lib.hid rB; clear rB
  have Fo72 := Lib.hid q70; clear q70
  obtain ⟨ln_o72, ln_o72_1, ln_o72_2, bI0_o72, hs0_o72, bm0_o72, bI1_o72, hs1_o72, bm1_o72⟩ := l71
  have hI0_o72 := (fun t ht => Nat.le_trans (bI0_o72 t ht) (by omega) : ∀ t ∈ its62, t.n ≤ 1000000000); have hm0_o72 := Lib.hid bm0_o72; clear bI0_o72 bm0_o72
  have hI1_o72 := (fun t ht => Nat.le_trans (bI1_o72 t ht) (by omega) : ∀ t ∈ jts66, t.n ≤ 1000000000); have hm1_o72 := Lib.hid bm1_o72; clear bI1_o72 bm1_o72
  clear hb hb'
  go_wp2_with fail
  refine (eqFormula_t _ _ _ _ _ _ _ _ _ _ _ _ _ _ _ _ _ _ _ _ _ _ _ _ _ _ _ (by exact ((Fo72.out.rd).alloc _)) (by exact ((Fo29.out.rd).alloc _)) (by omega) (by omega) (by omega) hI0_o72 (hm0_o72.out.trans hm0_o29.out.symm) hI1_o72 (hm1_o72.out.trans hm1_o29.out.symm)).mono ?_
  rintro e w33 ⟨rfl, hb⟩
  have hb' : Below w32.heap.size w32 w33 := (by first | (with_reducible exact hb) | (with_reducible exact up1 hb) | (with_reducible exact up2 hb) | (with_reducible exact up3 hb) | (with_reducible exact up4 hb) | (with_reducible exact below_of_drew hb) | (with_reducible exact below_of_drew (up1 hb)))
  have z33 := hb'.size
  have c33_a0_0 : w33.cell? ⟨w.heap.size, 0, none⟩ = some (.int .i64 sy0) := keepc hb' c32_a0_0
  clear c32_a0_0 ac32_a0_0
  have c33_a0_1 : w33.cell? ⟨w.heap.size, 1, none⟩ = some (.int .i64 st0) := keepc hb' c32_a0_1
  clear c32_a0_1 ac32_a0_1
  have c33_a0_2 : w33.cell? ⟨w.heap.size, 2, none⟩ = some (.slice A0 n0 c0) := keepc hb' c32_a0_2
  clear c32_a0_2 ac32_a0_2
  have c33_o29_0 : w33.cell? ⟨w6.heap.size, 0, none⟩ = some (.int .i64 (rpR sy0 st0 xs0 x1 xs2 xs3 xs4).1.1) := keepc hb' c32_o29_0
  clear c32_o29_0 ac32_o29_0
  have c33_o29_1 : w33.cell? ⟨w6.heap.size, 1, none⟩ = some (.int .i64 (rpR sy0 st0 xs0 x1 xs2 xs3 xs4).1.2.1) := keepc hb' c32_o29_1
  clear c32_o29_1 ac32_o29_1
  have c33_o29_2 : w33.cell? ⟨w6.heap.size, 2, none⟩ = some (.int .i64 (rpR sy0 st0 xs0 x1 xs2 xs3 xs4).1.2.2.1) := keepc hb' c32_o29_2
  clear c32_o29_2 ac32_o29_2
  have c33_o29_3 : w33.cell? ⟨w6.heap.size, 3, none⟩ = some (.slice A16 n17 c18) := keepc hb' c32_o29_3
  clear c32_o29_3 ac32_o29_3
  have c33_o29_4 : w33.cell? ⟨w6.heap.size, 4, none⟩ = some (.slice B20 m21 d22) := keepc hb' c32_o29_4
  clear c32_o29_4 ac32_o29_4
  have c33_o29_5 : w33.cell? ⟨w6.heap.size, 5, none⟩ = some (.slice C24 k25 e26) := keepc hb' c32_o29_5
  clear c32_o29_5 ac32_o29_5
  have c33_o31_0 : w33.cell? ⟨w7.heap.size, 0, none⟩ = some (.int .i64 sy0) := keepc hb' c32_o31_0
  clear c32_o31_0 ac32_o31_0
  have c33_o31_1 : w33.cell? ⟨w7.heap.size, 1, none⟩ = some (.int .i64 st0) := keepc hb' c32_o31_1
  clear c32_o31_1 ac32_o31_1
  have c33_o31_2 : w33.cell? ⟨w7.heap.size, 2, none⟩ = some (.slice (some ⟨g030, 0, none⟩) n0 n0) := keepc hb' c32_o31_2
  clear c32_o31_2 ac32_o31_2
  have c33_o48_0 : w33.cell? ⟨w11.heap.size, 0, none⟩ = some (.int .i64 (rpR sy0 st0 xs0 x1 xs2 xs3 xs4).1.1) := keepc hb' c32_o48_0
  clear c32_o48_0 ac32_o48_0
  have c33_o48_1 : w33.cell? ⟨w11.heap.size, 1, none⟩ = some (.int .i64 (rpR sy0 st0 xs0 x1 xs2 xs3 xs4).1.2.1) := keepc hb' c32_o48_1
  clear c32_o48_1 ac32_o48_1
  have c33_o48_2 : w33.cell? ⟨w11.heap.size, 2, none⟩ = some (.int .i64 (rpR sy0 st0 xs0 x1 xs2 xs3 xs4).1.2.2.1) := keepc hb' c32_o48_2
  clear c32_o48_2 ac32_o48_2
  have c33_o48_3 : w33.cell? ⟨w11.heap.size, 3, none⟩ = some (.slice A35 n36 c37) := keepc hb' c32_o48_3
  clear c32_o48_3 ac32_o48_3
  have c33_o48_4 : w33.cell? ⟨w11.heap.size, 4, none⟩ = some (.slice B39 m40 d41) := keepc hb' c32_o48_4
  clear c32_o48_4 ac32_o48_4
  have c33_o48_5 : w33.cell? ⟨w11.heap.size, 5, none⟩ = some (.slice C43 k44 e45) := keepc hb' c32_o48_5
  clear c32_o48_5 ac32_o48_5
  have c33_o72_0 : w33.cell? ⟨w32.heap.size, 0, none⟩ = some (.int .i64 (rpR sy0 st0 xs0 x1 xs2 xs3 xs4).1.1) := keepc hb (by first | (simp; done) | (rw [World.cell?_alloc_past _ _ _ (by simp <;> omega)]; simp; done) | (rw [World.cell?_alloc_past _ _ _ (by simp <;> omega), World.cell?_alloc_past _ _ _ (by simp <;> omega)]; simp; done) | (rw [World.cell?_alloc_past _ _ _ (by simp <;> omega), World.cell?_alloc_past _ _ _ (by simp <;> omega), World.cell?_alloc_past _ _ _ (by simp <;> omega)]; simp; done) | (rw [World.cell?_alloc_at _ _ _ _ (by simp)]; simp; done) | (rw [World.cell?_alloc_past _ _ _ (by simp <;> omega), World.cell?_alloc_at _ _ _ _ (by simp)]; simp; done) | (rw [World.cell?_alloc_past _ _ _ (by simp <;> omega), World.cell?_alloc_past _ _ _ (by simp <;> omega), World.cell?_alloc_at _ _ _ _ (by simp)]; simp; done) | (rw [World.cell?_alloc_past _ _ _ (by simp <;> omega), World.cell?_alloc_past _ _ _ (by simp <;> omega), World.cell?_alloc_past _ _ _ (by simp <;> omega), World.cell?_alloc_at _ _ _ _ (by simp)]; simp; done))
  have hl_c33_o72_0 : w32.heap.size < w33.heap.size := World.block_lt_of_cell? w33 _ c33_o72_0
  have c33_o72_1 : w33.cell? ⟨w32.heap.size, 1, none⟩ = some (.int .i64 (rpR sy0 st0 xs0 x1 xs2 xs3 xs4).1.2.1) := keepc hb (by first | (simp; done) | (rw [World.cell?_alloc_past _ _ _ (by simp <;> omega)]; simp; done) | (rw [World.cell?_alloc_past _ _ _ (by simp <;> omega), World.cell?_alloc_past _ _ _ (by simp <;> omega)]; simp; done) | (rw [World.cell?_alloc_past _ _ _ (by simp <;> omega), World.cell?_alloc_past _ _ _ (by simp <;> omega), World.cell?_alloc_past _ _ _ (by simp <;> omega)]; simp; done) | (rw [World.cell?_alloc_at _ _ _ _ (by simp)]; simp; done) | (rw [World.cell?_alloc_past _ _ _ (by simp <;> omega), World.cell?_alloc_at _ _ _ _ (by simp)]; simp; done) | (rw [World.cell?_alloc_past _ _ _ (by simp <;> omega), World.cell?_alloc_past _ _ _ (by simp <;> omega), World.cell?_alloc_at _ _ _ _ (by simp)]; simp; done) | (rw [World.cell?_alloc_past _ _ _ (by simp <;> omega), World.cell?_alloc_past _ _ _ (by simp <;> omega), World.cell?_alloc_past _ _ _ (by simp <;> omega), World.cell?_alloc_at _ _ _ _ (by simp)]; simp; done))
  have c33_o72_2 : w33.cell? ⟨w32.heap.size, 2, none⟩ = some (.int .i64 (rpR sy0 st0 xs0 x1 xs2 xs3 xs4).1.2.2.1) := keepc hb (by first | (simp; done) | (rw [World.cell?_alloc_past _ _ _ (by simp <;> omega)]; simp; done) | (rw [World.cell?_alloc_past _ _ _ (by simp <;> omega), World.cell?_alloc_past _ _ _ (by simp <;> omega)]; simp; done) | (rw [World.cell?_alloc_past _ _ _ (by simp <;> omega), World.cell?_alloc_past _ _ _ (by simp <;> omega), World.cell?_alloc_past _ _ _ (by simp <;> omega)]; simp; done) | (rw [World.cell?_alloc_at _ _ _ _ (by simp)]; simp; done) | (rw [World.cell?_alloc_past _ _ _ (by simp <;> omega), World.cell?_alloc_at _ _ _ _ (by simp)]; simp; done) | (rw [World.cell?_alloc_past _ _ _ (by simp <;> omega), World.cell?_alloc_past _ _ _ (by simp <;> omega), World.cell?_alloc_at _ _ _ _ (by simp)]; simp; done) | (rw [World.cell?_alloc_past _ _ _ (by simp <;> omega), World.cell?_alloc_past _ _ _ (by simp <;> omega), World.cell?_alloc_past _ _ _ (by simp <;> omega), World.cell?_alloc_at _ _ _ _ (by simp)]; simp; done))
  have c33_o72_3 : w33.cell? ⟨w32.heap.size, 3, none⟩ = some (.slice A59 n60 c61) := keepc hb (by first | (simp; done) | (rw [World.cell?_alloc_past _ _ _ (by simp <;> omega)]; simp; done) | (rw [World.cell?_alloc_past _ _ _ (by simp <;> omega), World.cell?_alloc_past _ _ _ (by simp <;> omega)]; simp; done) | (rw [World.cell?_alloc_past _ _ _ (by simp <;> omega), World.cell?_alloc_past _ _ _ (by simp <;> omega), World.cell?_alloc_past _ _ _ (by simp <;> omega)]; simp; done) | (rw [World.cell?_alloc_at _ _ _ _ (by simp)]; simp; done) | (rw [World.cell?_alloc_past _ _ _ (by simp <;> omega), World.cell?_alloc_at _ _ _ _ (by simp)]; simp; done) | (rw [World.cell?_alloc_past _ _ _ (by simp <;> omega), World.cell?_alloc_past _ _ _ (by simp <;> omega), World.cell?_alloc_at _ _ _ _ (by simp)]; simp; done) | (rw [World.cell?_alloc_past _ _ _ (by simp <;> omega), World.cell?_alloc_past _ _ _ (by simp <;> omega), World.cell?_alloc_past _ _ _ (by simp <;> omega), World.cell?_alloc_at _ _ _ _ (by simp)]; simp; done))
  have c33_o72_4 : w33.cell? ⟨w32.heap.size, 4, none⟩ = some (.slice B63 m64 d65) := keepc hb (by first | (simp; done) | (rw [World.cell?_alloc_past _ _ _ (by simp <;> omega)]; simp; done) | (rw [World.cell?_alloc_past _ _ _ (by simp <;> omega), World.cell?_alloc_past _ _ _ (by simp <;> omega)]; simp; done) | (rw [World.cell?_alloc_past _ _ _ (by simp <;> omega), World.cell?_alloc_past _ _ _ (by simp <;> omega), World.cell?_alloc_past _ _ _ (by simp <;> omega)]; simp; done) | (rw [World.cell?_alloc_at _ _ _ _ (by simp)]; simp; done) | (rw [World.cell?_alloc_past _ _ _ (by simp <;> omega), World.cell?_alloc_at _ _ _ _ (by simp)]; simp; done) | (rw [World.cell?_alloc_past _ _ _ (by simp <;> omega), World.cell?_alloc_past _ _ _ (by simp <;> omega), World.cell?_alloc_at _ _ _ _ (by simp)]; simp; done) | (rw [World.cell?_alloc_past _ _ _ (by simp <;> omega), World.cell?_alloc_past _ _ _ (by simp <;> omega), World.cell?_alloc_past _ _ _ (by simp <;> omega), World.cell?_alloc_at _ _ _ _ (by simp)]; simp; done))
  have c33_o72_5 : w33.cell? ⟨w32.heap.size, 5, none⟩ = some (.slice C67 k68 e69) := keepc hb (by first | (simp; done) | (rw [World.cell?_alloc_past _ _ _ (by simp <;> omega)]; simp; done) | (rw [World.cell?_alloc_past _ _ _ (by simp <;> omega), World.cell?_alloc_past _ _ _ (by simp <;> omega)]; simp; done) | (rw [World.cell?_alloc_past _ _ _ (by simp <;> omega), World.cell?_alloc_past _ _ _ (by simp <;> omega), World.cell?_alloc_past _ _ _ (by simp <;> omega)]; simp; done) | (rw [World.cell?_alloc_at _ _ _ _ (by simp)]; simp; done) | (rw [World.cell?_alloc_past _ _ _ (by simp <;> omega), World.cell?_alloc_at _ _ _ _ (by simp)]; simp; done) | (rw [World.cell?_alloc_past _ _ _ (by simp <;> omega), World.cell?_alloc_past _ _ _ (by simp <;> omega), World.cell?_alloc_at _ _ _ _ (by simp)]; simp; done) | (rw [World.cell?_alloc_past _ _ _ (by simp <;> omega), World.cell?_alloc_past _ _ _ (by simp <;> omega), World.cell?_alloc_past _ _ _ (by simp <;> omega), World.cell?_alloc_at _ _ _ _ (by simp)]; simp; done))
  have ac33_a0_0 := fun o => keepa o c33_a0_0
  have ac33_a0_1 := fun o => keepa o c33_a0_1
  have ac33_a0_2 := fun o => keepa o c33_a0_2
  have ac33_o29_0 := fun o => keepa o c33_o29_0
  have ac33_o29_1 := fun o => keepa o c33_o29_1
  have ac33_o29_2 := fun o => keepa o c33_o29_2
  have ac33_o29_3 := fun o => keepa o c33_o29_3
  have ac33_o29_4 := fun o => keepa o c33_o29_4
  have ac33_o29_5 := fun o => keepa o c33_o29_5
  have ac33_o31_0 := fun o => keepa o c33_o31_0
  have ac33_o31_1 := fun o => keepa o c33_o31_1
  have ac33_o31_2 := fun o => keepa o c33_o31_2
  have ac33_o48_0 := fun o => keepa o c33_o48_0
  have ac33_o48_1 := fun o => keepa o c33_o48_1
  have ac33_o48_2 := fun o => keepa o c33_o48_2
  have ac33_o48_3 := fun o => keepa o c33_o48_3
  have ac33_o48_4 := fun o => keepa o c33_o48_4
  have ac33_o48_5 := fun o => keepa o c33_o48_5
  have ac33_o72_0 := fun o => keepa o c33_o72_0
  have ac33_o72_1 := fun o => keepa o c33_o72_1
  have ac33_o72_2 := fun o => keepa o c33_o72_2
  have ac33_o72_3 := fun o => keepa o c33_o72_3
  have ac33_o72_4 := fun o => keepa o c33_o72_4
  have ac33_o72_5 := fun o => keepa o c33_o72_5
  have rP0 := P0.out.below hb'; clear P0; have P0 := Lib.hid rP0; clear rP0
  have rP2 := P2.out.below hb'; clear P2; have P2 := Lib.hid rP2; clear rP2
  have rP3 := P3.out.below hb'; clear P3; have P3 := Lib.hid rP3; clear rP3
  have rP4 := P4.out.below hb'; clear P4; have P4 := Lib.hid rP4; clear rP4
  have rFo12 := Fo12.out.below hb'; clear Fo12; have Fo12 := Lib.hid rFo12; clear rFo12
  have rFo13 := Fo13.out.below hb'; clear Fo13; have Fo13 := Lib.hid rFo13; clear rFo13
  have rFo14 := Fo14.out.below hb'; clear Fo14; have Fo14 := Lib.hid rFo14; clear rFo14
  have rFo15 := Fo15.out.below hb'; clear Fo15; have Fo15 := Lib.hid rFo15; clear rFo15
  have rFo29 := Fo29.out.below hb'; clear Fo29; have Fo29 := Lib.hid rFo29; clear rFo29
  have rFo31 := Fo31.out.below hb'; clear Fo31; have Fo31 := Lib.hid rFo31; clear rFo31
  have rFo32 := Fo32.out.below hb'; clear Fo32; have Fo32 := Lib.hid rFo32; clear rFo32
  have rFo33 := Fo33.out.below hb'; clear Fo33; have Fo33 := Lib.hid rFo33; clear rFo33
  have rFo34 := Fo34.out.below hb'; clear Fo34; have Fo34 := Lib.hid rFo34; clear rFo34
  have rFo48 := Fo48.out.below hb'; clear Fo48; have Fo48 := Lib.hid rFo48; clear rFo48
  have rFo51 := Fo51.out.below hb'; clear Fo51; have Fo51 := Lib.hid rFo51; clear rFo51
  have rFo52 := Fo52.out.below hb'; clear Fo52; have Fo52 := Lib.hid rFo52; clear rFo52
  have rFo53 := Fo53.out.below hb'; clear Fo53; have Fo53 := Lib.hid rFo53; clear rFo53
  have rFo55 := Fo55.out.below hb'; clear Fo55; have Fo55 := Lib.hid rFo55; clear rFo55
  have rFo56 := Fo56.out.below hb'; clear Fo56; have Fo56 := Lib.hid rFo56; clear rFo56
  have rFo57 := Fo57.out.below hb'; clear Fo57; have Fo57 := Lib.hid rFo57; clear rFo57
  have rFo58 := Fo58.out.below hb'; clear Fo58; have Fo58 := Lib.hid rFo58; clear rFo58
  have rFo72 := Fo72.out.below hb'; clear Fo72; have Fo72 := Lib.hid rFo72; clear rFo72
  have rB := below_chain B.out (by omega) hb'; clear B; have B := Lib.hid rB; clear rB
  clear hb hb'
  go_wp2_with fail
  refine (heldFormula_c _ _ _ _ _ _ _ _ _ _ _ _ _ _ _ _ _ (by exact (Fo48.out.rd)) (by omega) (by omega) (by omega) hI0_o48 (by omega) hI1_o48 (by omega) (by omega) (by omega)).mono ?_
  rintro e w34 ⟨rfl, hb⟩
  have hb' : Below w33.heap.size w33 w34 := (by first | (with_reducible exact hb) | (with_reducible exact up1 hb) | (with_reducible exact up2 hb) | (with_reducible exact up3 hb) | (with_reducible exact up4 hb) | (with_reducible exact below_of_drew hb) | (with_reducible exact below_of_drew (up1 hb)))
  have z34 := hb'.size
  have c34_a0_0 : w34.cell? ⟨w.heap.size, 0, none⟩ = some (.int .i64 sy0) := keepc hb' c33_a0_0
  clear c33_a0_0 ac33_a0_0
  have c34_a0_1 : w34.cell? ⟨w.heap.size, 1, none⟩ = some (.int .i64 st0) := keepc hb' c33_a0_1
  clear c33_a0_1 ac33_a0_1
  have c34_a0_2 : w34.cell? ⟨w.heap.size, 2, none⟩ = some (.slice A0 n0 c0) := keepc hb' c33_a0_2
  clear c33_a0_2 ac33_a0_2
  have c34_o29_0 : w34.cell? ⟨w6.heap.size, 0, none⟩ = some (.int .i64 (rpR sy0 st0 xs0 x1 xs2 xs3 xs4).1.1) := keepc hb' c33_o29_0
  clear c33_o29_0 ac33_o29_0
  have c34_o29_1 : w34.cell? ⟨w6.heap.size, 1, none⟩ = some (.int .i64 (rpR sy0 st0 xs0 x1 xs2 xs3 xs4).1.2.1) := keepc hb' c33_o29_1
  clear c33_o29_1 ac33_o29_1
  have c34_o29_2 : w34.cell? ⟨w6.heap.size, 2, none⟩ = some (.int .i64 (rpR sy0 st0 xs0 x1 xs2 xs3 xs4).1.2.2.1) := keepc hb' c33_o29_2
  clear c33_o29_2 ac33_o29_2
  have c34_o29_3 : w34.cell? ⟨w6.heap.size, 3, none⟩ = some (.slice A16 n17 c18) := keepc hb' c33_o29_3
  clear c33_o29_3 ac33_o29_3
  have c34_o29_4 : w34.cell? ⟨w6.heap.size, 4, none⟩ = some (.slice B20 m21 d22) := keepc hb' c33_o29_4
  clear c33_o29_4 ac33_o29_4
  have c34_o29_5 : w34.cell? ⟨w6.heap.size, 5, none⟩ = some (.slice C24 k25 e26) := keepc hb' c33_o29_5
  clear c33_o29_5 ac33_o29_5
  have c34_o31_0 : w34.cell? ⟨w7.heap.size, 0, none⟩ = some (.int .i64 sy0) := keepc hb' c33_o31_0
  clear c33_o31_0 ac33_o31_0
  have c34_o31_1 : w34.cell? ⟨w7.heap.size, 1, none⟩ = some (.int .i64 st0) := keepc hb' c33_o31_1
  clear c33_o31_1 ac33_o31_1
  have c34_o31_2 : w34.cell? ⟨w7.heap.size, 2, none⟩ = some (.slice (some ⟨g030, 0, none⟩) n0 n0) := keepc hb' c33_o31_2
  clear c33_o31_2 ac33_o31_2
  have c34_o48_0 : w34.cell? ⟨w11.heap.size, 0, none⟩ = some (.int .i64 (rpR sy0 st0 xs0 x1 xs2 xs3 xs4).1.1) := keepc hb' c33_o48_0
  clear c33_o48_0 ac33_o48_0
  have c34_o48_1 : w34.cell? ⟨w11.heap.size, 1, none⟩ = some (.int .i64 (rpR sy0 st0 xs0 x1 xs2 xs3 xs4).1.2.1) := keepc hb' c33_o48_1
  clear c33_o48_1 ac33_o48_1
  have c34_o48_2 : w34.cell? ⟨w11.heap.size, 2, none⟩ = some (.int .i64 (rpR sy0 st0 xs0 x1 xs2 xs3 xs4).1.2.2.1) := keepc hb' c33_o48_2
  clear c33_o48_2 ac33_o48_2
  have c34_o48_3 : w34.cell? ⟨w11.heap.size, 3, none⟩ = some (.slice A35 n36 c37) := keepc hb' c33_o48_3
  clear c33_o48_3 ac33_o48_3
  have c34_o48_4 : w34.cell? ⟨w11.heap.size, 4, none⟩ = some (.slice B39 m40 d41) := keepc hb' c33_o48_4
  clear c33_o48_4 ac33_o48_4
  have c34_o48_5 : w34.cell? ⟨w11.heap.size, 5, none⟩ = some (.slice C43 k44 e45) := keepc hb' c33_o48_5
  clear c33_o48_5 ac33_o48_5
  have c34_o72_0 : w34.cell? ⟨w32.heap.size, 0, none⟩ = some (.int .i64 (rpR sy0 st0 xs0 x1 xs2 xs3 xs4).1.1) := keepc hb' c33_o72_0
  clear c33_o72_0 ac33_o72_0
  have c34_o72_1 : w34.cell? ⟨w32.heap.size, 1, none⟩ = some (.int .i64 (rpR sy0 st0 xs0 x1 xs2 xs3 xs4).1.2.1) := keepc hb' c33_o72_1
  clear c33_o72_1 ac33_o72_1
  have c34_o72_2 : w34.cell? ⟨w32.heap.size, 2, none⟩ = some (.int .i64 (rpR sy0 st0 xs0 x1 xs2 xs3 xs4).1.2.2.1) := keepc hb' c33_o72_2
  clear c33_o72_2 ac33_o72_2
  have c34_o72_3 : w34.cell? ⟨w32.heap.size, 3, none⟩ = some (.slice A59 n60 c61) := keepc hb' c33_o72_3
  clear c33_o72_3 ac33_o72_3
  have c34_o72_4 : w34.cell? ⟨w32.heap.size, 4, none⟩ = some (.slice B63 m64 d65) := keepc hb' c33_o72_4
  clear c33_o72_4 ac33_o72_4
  have c34_o72_5 : w34.cell? ⟨w32.heap.size, 5, none⟩ = some (.slice C67 k68 e69) := keepc hb' c33_o72_5
  clear c33_o72_5 ac33_o72_5
  have ac34_a0_0 := fun o => keepa o c34_a0_0
  have ac34_a0_1 := fun o => keepa o c34_a0_1
  have ac34_a0_2 := fun o => keepa o c34_a0_2
  have ac34_o29_0 := fun o => keepa o c34_o29_0
  have ac34_o29_1 := fun o => keepa o c34_o29_1
  have ac34_o29_2 := fun o => keepa o c34_o29_2
  have ac34_o29_3 := fun o => keepa o c34_o29_3
  have ac34_o29_4 := fun o => keepa o c34_o29_4
  have ac34_o29_5 := fun o => keepa o c34_o29_5
  have ac34_o31_0 := fun o => keepa o c34_o31_0
  have ac34_o31_1 := fun o => keepa o c34_o31_1
  have ac34_o31_2 := fun o => keepa o c34_o31_2
  have ac34_o48_0 := fun o => keepa o c34_o48_0
  have ac34_o48_1 := fun o => keepa o c34_o48_1
  have ac34_o48_2 := fun o => keepa o c34_o48_2
  have ac34_o48_3 := fun o => keepa o c34_o48_3
  have ac34_o48_4 := fun o => keepa o c34_o48_4
  have ac34_o48_5 := fun o => keepa o c34_o48_5
  have ac34_o72_0 := fun o => keepa o c34_o72_0
  have ac34_o72_1 := fun o => keepa o c34_o72_1
  have ac34_o72_2 := fun o => keepa o c34_o72_2
  have ac34_o72_3 := fun o => keepa o c34_o72_3
  have ac34_o72_4 := fun o => keepa o c34_o72_4
  have ac34_o72_5 := fun o => keepa o c34_o72_5
  have rP0 := P0.out.below hb'; clear P0; have P0 := Lib.hid rP0; clear rP0
  have rP2 := P2.out.below hb'; clear P2; have P2 := Lib.hid rP2; clear rP2
  have rP3 := P3.out.below hb'; clear P3; have P3 := Lib.hid rP3; clear rP3
  have rP4 := P4.out.below hb'; clear P4; have P4 := Lib.hid rP4; clear rP4
  have rFo12 := Fo12.out.below hb'; clear Fo12; have Fo12 := Lib.hid rFo12; clear rFo12
  have rFo13 := Fo13.out.below hb'; clear Fo13; have Fo13 := Lib.hid rFo13; clear rFo13
  have rFo14 := Fo14.out.below hb'; clear Fo14; have Fo14 := Lib.hid rFo14; clear rFo14
  have rFo15 := Fo15.out.below hb'; clear Fo15; have Fo15 := Lib.hid rFo15; clear rFo15
  have rFo29 := Fo29.out.below hb'; clear Fo29; have Fo29 := Lib.hid rFo29; clear rFo29
  have rFo31 := Fo31.out.below hb'; clear Fo31; have Fo31 := Lib.hid rFo31; clear rFo31
  have rFo32 := Fo32.out.below hb'; clear Fo32; have Fo32 := Lib.hid rFo32; clear rFo32
  have rFo33 := Fo33.out.below hb'; clear Fo33; have Fo33 := Lib.hid rFo33; clear rFo33
  have rFo34 := Fo34.out.below hb'; clear Fo34; have Fo34 := Lib.hid rFo34; clear rFo34
  have rFo48 := Fo48.out.below hb'; clear Fo48; have Fo48 := Lib.hid rFo48; clear rFo48
  have rFo51 := Fo51.out.below hb'; clear Fo51; have Fo51 := Lib.hid rFo51; clear rFo51
  have rFo52 := Fo52.out.below hb'; clear Fo52; have Fo52 := Lib.hid rFo52; clear rFo52
  have rFo53 := Fo53.out.below hb'; clear Fo53; have Fo53 := Lib.hid rFo53; clear rFo53
  have rFo55 := Fo55.out.below hb'; clear Fo55; have Fo55 := Lib.hid rFo55; clear rFo55
  have rFo56 := Fo56.out.below hb'; clear Fo56; have Fo56 := Lib.hid rFo56; clear rFo56
  have rFo57 := Fo57.out.below hb'; clear Fo57; have Fo57 := Lib.hid rFo57; clear rFo57
  have rFo58 := Fo58.out.below hb'; clear Fo58; have Fo58 := Lib.hid rFo58; clear rFo58
  have rFo72 := Fo72.out.below hb'; clear Fo72; have Fo72 := Lib.hid rFo72; clear rFo72
  have rB := below_chain B.out (by omega) hb'; clear B; have B := Lib.hid rB; clear rB
  clear hb hb'
  go_wp2
  go_ret
  exact ⟨rfl, B.out⟩
end Go.Proofs.Ytmmgejnhfpfmnaa
