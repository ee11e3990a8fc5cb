/-
  FnExactReadProof returns true for every input: its walk, out of the contracts.
-/
import Derived.Test.YtdendllginlidaaGreatDoorLawMachine
import Derived.Test.YtdendllginlidaaGreatDoorLawProof
import Derived.Test.YtdendllginlidaaGreatDoorCSg
import Derived.Test.YtdendllginlidaaGreatDoorOpen
namespace Go.Proofs.YtdendllginlidaaGreatDoor
open Go.RowKit

set_option maxHeartbeats 4000000 in
set_option maxRecDepth 100000 in
theorem walkReadProof (x0 : ByteArray) (w : World) (_o0 : x0.size ≤ maxLen) (hT : LibS w) :
    Calls Tryz.prog 4 #[.string x0] w fun e w' => e = .returned (.bool true) ∧ Below w.heap.size w w' := by
  have HTB := Lib.hid hT; clear hT
  obtain ⟨RR, hRR⟩ : ∃ RR, rdpR x0 = RR := ⟨_, rfl⟩; have HRR := Lib.hid hRR; clear hRR
  by_cases hsx0 : 1048576 < x0.size
  · go_enter Tryz.func4, Tryz.ntmps4
    go_wp2
    go_ret
    exact ⟨rfl, below_size⟩
  go_enter Tryz.func4, Tryz.ntmps4
  go_wp2_with fail
  refine (sReadProof_c _ _ HRR.out _ (by omega)).mono ?_
  rintro e w1 ⟨A11, n12, c13, B14, m15, d16, its17, rfl, q18, l19, hb⟩
  have hb' : Below w.heap.size w w1 := (by first | (with_reducible exact hb) | (with_reducible exact up1 hb) | (with_reducible exact up2 hb) | (with_reducible exact up3 hb) | (with_reducible exact up4 hb) | (with_reducible exact below_of_drew hb) | (with_reducible exact below_of_drew (up1 hb)))
  have z1 := hb'.size
  have rB := hb'; have B := Lib.hid rB; clear rB
  have Fo20 := Lib.hid q18; clear q18
  obtain ⟨ln_o20, ln_o20_1, bI1_o20, hs1_o20, bm1_o20⟩ := l19
  have hI1_o20 := (fun t ht => Nat.le_trans (bI1_o20 t ht) (by omega) : ∀ t ∈ its17, t.n ≤ 1000000000); have hm1_o20 := Lib.hid bm1_o20; clear bI1_o20 bm1_o20
  clear hb hb'
  go_wp2_with fail
  refine (iReadProof_c _ _ HRR.out _ (by omega) (by exact (((HTB.out.below B.out)).alloc _))).mono ?_
  rintro e w2 ⟨A21, n22, c23, B24, m25, d26, its27, rfl, q28, l29, hb⟩
  try simp only [World.size_alloc] at q28
  have hb' : Below w1.heap.size w1 w2 := (by first | (with_reducible exact hb) | (with_reducible exact up1 hb) | (with_reducible exact up2 hb) | (with_reducible exact up3 hb) | (with_reducible exact up4 hb) | (with_reducible exact below_of_drew hb) | (with_reducible exact below_of_drew (up1 hb)))
  have z2 := hb'.size
  have c2_o20_0 : w2.cell? ⟨w1.heap.size, 0, none⟩ = some (.int .i64 RR.1.1) := keepc hb (by first | (simp; done) | (rw [World.cell?_alloc_past _ _ _ (by simp <;> omega)]; simp; done) | (rw [World.cell?_alloc_past _ _ _ (by simp <;> omega), World.cell?_alloc_past _ _ _ (by simp <;> omega)]; simp; done) | (rw [World.cell?_alloc_past _ _ _ (by simp <;> omega), World.cell?_alloc_past _ _ _ (by simp <;> omega), World.cell?_alloc_past _ _ _ (by simp <;> omega)]; simp; done) | (rw [World.cell?_alloc_at _ _ _ _ (by simp)]; simp; done) | (rw [World.cell?_alloc_past _ _ _ (by simp <;> omega), World.cell?_alloc_at _ _ _ _ (by simp)]; simp; done) | (rw [World.cell?_alloc_past _ _ _ (by simp <;> omega), World.cell?_alloc_past _ _ _ (by simp <;> omega), World.cell?_alloc_at _ _ _ _ (by simp)]; simp; done) | (rw [World.cell?_alloc_past _ _ _ (by simp <;> omega), World.cell?_alloc_past _ _ _ (by simp <;> omega), World.cell?_alloc_past _ _ _ (by simp <;> omega), World.cell?_alloc_at _ _ _ _ (by simp)]; simp; done))
  have hl_c2_o20_0 : w1.heap.size < w2.heap.size := World.block_lt_of_cell? w2 _ c2_o20_0
  have c2_o20_1 : w2.cell? ⟨w1.heap.size, 1, none⟩ = some (.slice A11 n12 c13) := keepc hb (by first | (simp; done) | (rw [World.cell?_alloc_past _ _ _ (by simp <;> omega)]; simp; done) | (rw [World.cell?_alloc_past _ _ _ (by simp <;> omega), World.cell?_alloc_past _ _ _ (by simp <;> omega)]; simp; done) | (rw [World.cell?_alloc_past _ _ _ (by simp <;> omega), World.cell?_alloc_past _ _ _ (by simp <;> omega), World.cell?_alloc_past _ _ _ (by simp <;> omega)]; simp; done) | (rw [World.cell?_alloc_at _ _ _ _ (by simp)]; simp; done) | (rw [World.cell?_alloc_past _ _ _ (by simp <;> omega), World.cell?_alloc_at _ _ _ _ (by simp)]; simp; done) | (rw [World.cell?_alloc_past _ _ _ (by simp <;> omega), World.cell?_alloc_past _ _ _ (by simp <;> omega), World.cell?_alloc_at _ _ _ _ (by simp)]; simp; done) | (rw [World.cell?_alloc_past _ _ _ (by simp <;> omega), World.cell?_alloc_past _ _ _ (by simp <;> omega), World.cell?_alloc_past _ _ _ (by simp <;> omega), World.cell?_alloc_at _ _ _ _ (by simp)]; simp; done))
  have c2_o20_2 : w2.cell? ⟨w1.heap.size, 2, none⟩ = some (.slice B14 m15 d16) := keepc hb (by first | (simp; done) | (rw [World.cell?_alloc_past _ _ _ (by simp <;> omega)]; simp; done) | (rw [World.cell?_alloc_past _ _ _ (by simp <;> omega), World.cell?_alloc_past _ _ _ (by simp <;> omega)]; simp; done) | (rw [World.cell?_alloc_past _ _ _ (by simp <;> omega), World.cell?_alloc_past _ _ _ (by simp <;> omega), World.cell?_alloc_past _ _ _ (by simp <;> omega)]; simp; done) | (rw [World.cell?_alloc_at _ _ _ _ (by simp)]; simp; done) | (rw [World.cell?_alloc_past _ _ _ (by simp <;> omega), World.cell?_alloc_at _ _ _ _ (by simp)]; simp; done) | (rw [World.cell?_alloc_past _ _ _ (by simp <;> omega), World.cell?_alloc_past _ _ _ (by simp <;> omega), World.cell?_alloc_at _ _ _ _ (by simp)]; simp; done) | (rw [World.cell?_alloc_past _ _ _ (by simp <;> omega), World.cell?_alloc_past _ _ _ (by simp <;> omega), World.cell?_alloc_past _ _ _ (by simp <;> omega), World.cell?_alloc_at _ _ _ _ (by simp)]; simp; done))
  have ac2_o20_0 := fun o => keepa o c2_o20_0
  have ac2_o20_1 := fun o => keepa o c2_o20_1
  have ac2_o20_2 := fun o => keepa o c2_o20_2
  have rFo20 := Fo20.out.below hb'; clear Fo20; have Fo20 := Lib.hid rFo20; clear rFo20
  have rB := below_chain B.out (by omega) hb'; clear B; have B := Lib.hid rB; clear rB
  have Fo30 := Lib.hid q28; clear q28
  obtain ⟨ln_o30, ln_o30_1, bI1_o30, hs1_o30, bm1_o30⟩ := l29
  have hI1_o30 := (fun t ht => Nat.le_trans (bI1_o30 t ht) (by omega) : ∀ t ∈ its27, t.n ≤ 1000000000); have hm1_o30 := Lib.hid bm1_o30; clear bI1_o30 bm1_o30
  clear hb hb'
  go_wp2_with fail
  refine (eqProof_t _ _ _ _ _ _ _ _ _ _ _ _ _ _ _ _ _ (by exact ((Fo30.out.rd).alloc _)) (by exact ((Fo20.out.rd).alloc _)) (by omega) (by omega) hI1_o30 (hm1_o30.out.trans hm1_o20.out.symm)).mono ?_
  rintro e w3 ⟨rfl, hb⟩
  have hb' : Below w2.heap.size w2 w3 := (by first | (with_reducible exact hb) | (with_reducible exact up1 hb) | (with_reducible exact up2 hb) | (with_reducible exact up3 hb) | (with_reducible exact up4 hb) | (with_reducible exact below_of_drew hb) | (with_reducible exact below_of_drew (up1 hb)))
  have z3 := hb'.size
  have c3_o20_0 : w3.cell? ⟨w1.heap.size, 0, none⟩ = some (.int .i64 RR.1.1) := keepc hb' c2_o20_0
  clear c2_o20_0 ac2_o20_0
  have c3_o20_1 : w3.cell? ⟨w1.heap.size, 1, none⟩ = some (.slice A11 n12 c13) := keepc hb' c2_o20_1
  clear c2_o20_1 ac2_o20_1
  have c3_o20_2 : w3.cell? ⟨w1.heap.size, 2, none⟩ = some (.slice B14 m15 d16) := keepc hb' c2_o20_2
  clear c2_o20_2 ac2_o20_2
  have c3_o30_0 : w3.cell? ⟨w2.heap.size, 0, none⟩ = some (.int .i64 RR.1.1) := keepc hb (by first | (simp; done) | (rw [World.cell?_alloc_past _ _ _ (by simp <;> omega)]; simp; done) | (rw [World.cell?_alloc_past _ _ _ (by simp <;> omega), World.cell?_alloc_past _ _ _ (by simp <;> omega)]; simp; done) | (rw [World.cell?_alloc_past _ _ _ (by simp <;> omega), World.cell?_alloc_past _ _ _ (by simp <;> omega), World.cell?_alloc_past _ _ _ (by simp <;> omega)]; simp; done) | (rw [World.cell?_alloc_at _ _ _ _ (by simp)]; simp; done) | (rw [World.cell?_alloc_past _ _ _ (by simp <;> omega), World.cell?_alloc_at _ _ _ _ (by simp)]; simp; done) | (rw [World.cell?_alloc_past _ _ _ (by simp <;> omega), World.cell?_alloc_past _ _ _ (by simp <;> omega), World.cell?_alloc_at _ _ _ _ (by simp)]; simp; done) | (rw [World.cell?_alloc_past _ _ _ (by simp <;> omega), World.cell?_alloc_past _ _ _ (by simp <;> omega), World.cell?_alloc_past _ _ _ (by simp <;> omega), World.cell?_alloc_at _ _ _ _ (by simp)]; simp; done))
  have hl_c3_o30_0 : w2.heap.size < w3.heap.size := World.block_lt_of_cell? w3 _ c3_o30_0
  have c3_o30_1 : w3.cell? ⟨w2.heap.size, 1, none⟩ = some (.slice A21 n22 c23) := keepc hb (by first | (simp; done) | (rw [World.cell?_alloc_past _ _ _ (by simp <;> omega)]; simp; done) | (rw [World.cell?_alloc_past _ _ _ (by simp <;> omega), World.cell?_alloc_past _ _ _ (by simp <;> omega)]; simp; done) | (rw [World.cell?_alloc_past _ _ _ (by simp <;> omega), World.cell?_alloc_past _ _ _ (by simp <;> omega), World.cell?_alloc_past _ _ _ (by simp <;> omega)]; simp; done) | (rw [World.cell?_alloc_at _ _ _ _ (by simp)]; simp; done) | (rw [World.cell?_alloc_past _ _ _ (by simp <;> omega), World.cell?_alloc_at _ _ _ _ (by simp)]; simp; done) | (rw [World.cell?_alloc_past _ _ _ (by simp <;> omega), World.cell?_alloc_past _ _ _ (by simp <;> omega), World.cell?_alloc_at _ _ _ _ (by simp)]; simp; done) | (rw [World.cell?_alloc_past _ _ _ (by simp <;> omega), World.cell?_alloc_past _ _ _ (by simp <;> omega), World.cell?_alloc_past _ _ _ (by simp <;> omega), World.cell?_alloc_at _ _ _ _ (by simp)]; simp; done))
  have c3_o30_2 : w3.cell? ⟨w2.heap.size, 2, none⟩ = some (.slice B24 m25 d26) := keepc hb (by first | (simp; done) | (rw [World.cell?_alloc_past _ _ _ (by simp <;> omega)]; simp; done) | (rw [World.cell?_alloc_past _ _ _ (by simp <;> omega), World.cell?_alloc_past _ _ _ (by simp <;> omega)]; simp; done) | (rw [World.cell?_alloc_past _ _ _ (by simp <;> omega), World.cell?_alloc_past _ _ _ (by simp <;> omega), World.cell?_alloc_past _ _ _ (by simp <;> omega)]; simp; done) | (rw [World.cell?_alloc_at _ _ _ _ (by simp)]; simp; done) | (rw [World.cell?_alloc_past _ _ _ (by simp <;> omega), World.cell?_alloc_at _ _ _ _ (by simp)]; simp; done) | (rw [World.cell?_alloc_past _ _ _ (by simp <;> omega), World.cell?_alloc_past _ _ _ (by simp <;> omega), World.cell?_alloc_at _ _ _ _ (by simp)]; simp; done) | (rw [World.cell?_alloc_past _ _ _ (by simp <;> omega), World.cell?_alloc_past _ _ _ (by simp <;> omega), World.cell?_alloc_past _ _ _ (by simp <;> omega), World.cell?_alloc_at _ _ _ _ (by simp)]; simp; done))
  have ac3_o20_0 := fun o => keepa o c3_o20_0
  have ac3_o20_1 := fun o => keepa o c3_o20_1
  have ac3_o20_2 := fun o => keepa o c3_o20_2
  have ac3_o30_0 := fun o => keepa o c3_o30_0
  have ac3_o30_1 := fun o => keepa o c3_o30_1
  have ac3_o30_2 := fun o => keepa o c3_o30_2
  have rFo20 := Fo20.out.below hb'; clear Fo20; have Fo20 := Lib.hid rFo20; clear rFo20
  have rFo30 := Fo30.out.below hb'; clear Fo30; have Fo30 := Lib.hid rFo30; clear rFo30
  have rB := below_chain B.out (by omega) hb'; clear B; have B := Lib.hid rB; clear rB
  clear hb hb'
  go_wp2_with fail
  refine (markProof_c _ _ _ _ _ _ _ _ _ _ _ _ _ (by exact (Fo30.out)) (by omega) (by omega) hI1_o30 (by omega) (by first | omega | (simp; omega)) (by omega) (by omega)).mono ?_
  rintro e w4 ⟨rfl, q4, hk⟩
  have hk' : KeepR (w1.heap.size + 1) w2.heap.size w3 w4 := (by first | (with_reducible exact hk) | (with_reducible exact hk.up1) | (with_reducible exact hk.up1.up1))
  have z4 := hk'.size
  have c4_o20_0 : w4.cell? ⟨w1.heap.size, 0, none⟩ = some (.int .i64 RR.1.1) := hk'.cell (by simp <;> omega) c3_o20_0
  clear c3_o20_0 ac3_o20_0
  have c4_o20_1 : w4.cell? ⟨w1.heap.size, 1, none⟩ = some (.slice A11 n12 c13) := hk'.cell (by simp <;> omega) c3_o20_1
  clear c3_o20_1 ac3_o20_1
  have c4_o20_2 : w4.cell? ⟨w1.heap.size, 2, none⟩ = some (.slice B14 m15 d16) := hk'.cell (by simp <;> omega) c3_o20_2
  clear c3_o20_2 ac3_o20_2
  have c4_o30_0 : w4.cell? ⟨w2.heap.size, 0, none⟩ = some (.int .i64 RR.1.1) := hk'.cell (by simp <;> omega) c3_o30_0
  clear c3_o30_0 ac3_o30_0
  have c4_o30_1 : w4.cell? ⟨w2.heap.size, 1, none⟩ = some (.slice A21 n22 c23) := hk'.cell (by simp <;> omega) c3_o30_1
  clear c3_o30_1 ac3_o30_1
  have c4_o30_2 : w4.cell? ⟨w2.heap.size, 2, none⟩ = some (.slice B24 m25 d26) := hk'.cell (by simp <;> omega) c3_o30_2
  clear c3_o30_2 ac3_o30_2
  have ac4_o20_0 := fun o => keepa o c4_o20_0
  have ac4_o20_1 := fun o => keepa o c4_o20_1
  have ac4_o20_2 := fun o => keepa o c4_o20_2
  have ac4_o30_0 := fun o => keepa o c4_o30_0
  have ac4_o30_1 := fun o => keepa o c4_o30_1
  have ac4_o30_2 := fun o => keepa o c4_o30_2
  have rFo20 := Fo20.out.keep hk' (by omega); clear Fo20; have Fo20 := Lib.hid rFo20; clear rFo20
  have rFo30 := q4; clear Fo30; have Fo30 := Lib.hid rFo30; clear rFo30 q4
  have rB := B.out.trans (hk'.below (B := w.heap.size) (by omega) (by omega)); clear B; have B := Lib.hid rB; clear rB
  clear hk hk'
  go_wp2_with fail
  refine (heldProof_c _ _ _ _ _ _ _ _ _ _ _ (by exact (Fo30.out.rd)) (by omega) (by omega) hI1_o30 (by omega) (by omega) (by omega)).mono ?_
  rintro e w5 ⟨rfl, hb⟩
  have hb' : Below w4.heap.size w4 w5 := (by first | (with_reducible exact hb) | (with_reducible exact up1 hb) | (with_reducible exact up2 hb) | (with_reducible exact up3 hb) | (with_reducible exact up4 hb) | (with_reducible exact below_of_drew hb) | (with_reducible exact below_of_drew (up1 hb)))
  have z5 := hb'.size
  have c5_o20_0 : w5.cell? ⟨w1.heap.size, 0, none⟩ = some (.int .i64 RR.1.1) := keepc hb' c4_o20_0
  clear c4_o20_0 ac4_o20_0
  have c5_o20_1 : w5.cell? ⟨w1.heap.size, 1, none⟩ = some (.slice A11 n12 c13) := keepc hb' c4_o20_1
  clear c4_o20_1 ac4_o20_1
  have c5_o20_2 : w5.cell? ⟨w1.heap.size, 2, none⟩ = some (.slice B14 m15 d16) := keepc hb' c4_o20_2
  clear c4_o20_2 ac4_o20_2
  have c5_o30_0 : w5.cell? ⟨w2.heap.size, 0, none⟩ = some (.int .i64 RR.1.1) := keepc hb' c4_o30_0
  clear c4_o30_0 ac4_o30_0
  have c5_o30_1 : w5.cell? ⟨w2.heap.size, 1, none⟩ = some (.slice A21 n22 c23) := keepc hb' c4_o30_1
  clear c4_o30_1 ac4_o30_1
  have c5_o30_2 : w5.cell? ⟨w2.heap.size, 2, none⟩ = some (.slice B24 m25 d26) := keepc hb' c4_o30_2
  clear c4_o30_2 ac4_o30_2
  have ac5_o20_0 := fun o => keepa o c5_o20_0
  have ac5_o20_1 := fun o => keepa o c5_o20_1
  have ac5_o20_2 := fun o => keepa o c5_o20_2
  have ac5_o30_0 := fun o => keepa o c5_o30_0
  have ac5_o30_1 := fun o => keepa o c5_o30_1
  have ac5_o30_2 := fun o => keepa o c5_o30_2
  have rFo20 := Fo20.out.below hb'; clear Fo20; have Fo20 := Lib.hid rFo20; clear rFo20
  have rFo30 := Fo30.out.below hb'; clear Fo30; have Fo30 := Lib.hid rFo30; clear rFo30
  have rB := below_chain B.out (by omega) hb'; clear B; have B := Lib.hid rB; clear rB
  clear hb hb'
  go_wp2_with fail
  refine (iReadProof_c _ _ HRR.out _ (by omega) (by exact ((HTB.out.below B.out)))).mono ?_
  rintro e w6 ⟨A31, n32, c33, B34, m35, d36, its37, rfl, q38, l39, hb⟩
  have hb' : Below w5.heap.size w5 w6 := (by first | (with_reducible exact hb) | (with_reducible exact up1 hb) | (with_reducible exact up2 hb) | (with_reducible exact up3 hb) | (with_reducible exact up4 hb) | (with_reducible exact below_of_drew hb) | (with_reducible exact below_of_drew (up1 hb)))
  have z6 := hb'.size
  have c6_o20_0 : w6.cell? ⟨w1.heap.size, 0, none⟩ = some (.int .i64 RR.1.1) := keepc hb' c5_o20_0
  clear c5_o20_0 ac5_o20_0
  have c6_o20_1 : w6.cell? ⟨w1.heap.size, 1, none⟩ = some (.slice A11 n12 c13) := keepc hb' c5_o20_1
  clear c5_o20_1 ac5_o20_1
  have c6_o20_2 : w6.cell? ⟨w1.heap.size, 2, none⟩ = some (.slice B14 m15 d16) := keepc hb' c5_o20_2
  clear c5_o20_2 ac5_o20_2
  have c6_o30_0 : w6.cell? ⟨w2.heap.size, 0, none⟩ = some (.int .i64 RR.1.1) := keepc hb' c5_o30_0
  clear c5_o30_0 ac5_o30_0
  have c6_o30_1 : w6.cell? ⟨w2.heap.size, 1, none⟩ = some (.slice A21 n22 c23) := keepc hb' c5_o30_1
  clear c5_o30_1 ac5_o30_1
  have c6_o30_2 : w6.cell? ⟨w2.heap.size, 2, none⟩ = some (.slice B24 m25 d26) := keepc hb' c5_o30_2
  clear c5_o30_2 ac5_o30_2
  have ac6_o20_0 := fun o => keepa o c6_o20_0
  have ac6_o20_1 := fun o => keepa o c6_o20_1
  have ac6_o20_2 := fun o => keepa o c6_o20_2
  have ac6_o30_0 := fun o => keepa o c6_o30_0
  have ac6_o30_1 := fun o => keepa o c6_o30_1
  have ac6_o30_2 := fun o => keepa o c6_o30_2
  have rFo20 := Fo20.out.below hb'; clear Fo20; have Fo20 := Lib.hid rFo20; clear rFo20
  have rFo30 := Fo30.out.below hb'; clear Fo30; have Fo30 := Lib.hid rFo30; clear rFo30
  have rB := below_chain B.out (by omega) hb'; clear B; have B := Lib.hid rB; clear rB
  have Fo40 := Lib.hid q38; clear q38
  obtain ⟨ln_o40, ln_o40_1, bI1_o40, hs1_o40, bm1_o40⟩ := l39
  have hI1_o40 := (fun t ht => Nat.le_trans (bI1_o40 t ht) (by omega) : ∀ t ∈ its37, t.n ≤ 1000000000); have hm1_o40 := Lib.hid bm1_o40; clear bI1_o40 bm1_o40
  clear hb hb'
  go_wp2_with fail
  refine (eqProof_t _ _ _ _ _ _ _ _ _ _ _ _ _ _ _ _ _ (by exact ((Fo40.out.rd).alloc _)) (by exact ((Fo20.out.rd).alloc _)) (by omega) (by omega) hI1_o40 (hm1_o40.out.trans hm1_o20.out.symm)).mono ?_
  rintro e w7 ⟨rfl, hb⟩
  have hb' : Below w6.heap.size w6 w7 := (by first | (with_reducible exact hb) | (with_reducible exact up1 hb) | (with_reducible exact up2 hb) | (with_reducible exact up3 hb) | (with_reducible exact up4 hb) | (with_reducible exact below_of_drew hb) | (with_reducible exact below_of_drew (up1 hb)))
  have z7 := hb'.size
  have c7_o20_0 : w7.cell? ⟨w1.heap.size, 0, none⟩ = some (.int .i64 RR.1.1) := keepc hb' c6_o20_0
  clear c6_o20_0 ac6_o20_0
  have c7_o20_1 : w7.cell? ⟨w1.heap.size, 1, none⟩ = some (.slice A11 n12 c13) := keepc hb' c6_o20_1
  clear c6_o20_1 ac6_o20_1
  have c7_o20_2 : w7.cell? ⟨w1.heap.size, 2, none⟩ = some (.slice B14 m15 d16) := keepc hb' c6_o20_2
  clear c6_o20_2 ac6_o20_2
  have c7_o30_0 : w7.cell? ⟨w2.heap.size, 0, none⟩ = some (.int .i64 RR.1.1) := keepc hb' c6_o30_0
  clear c6_o30_0 ac6_o30_0
  have c7_o30_1 : w7.cell? ⟨w2.heap.size, 1, none⟩ = some (.slice A21 n22 c23) := keepc hb' c6_o30_1
  clear c6_o30_1 ac6_o30_1
  have c7_o30_2 : w7.cell? ⟨w2.heap.size, 2, none⟩ = some (.slice B24 m25 d26) := keepc hb' c6_o30_2
  clear c6_o30_2 ac6_o30_2
  have c7_o40_0 : w7.cell? ⟨w6.heap.size, 0, none⟩ = some (.int .i64 RR.1.1) := keepc hb (by first | (simp; done) | (rw [World.cell?_alloc_past _ _ _ (by simp <;> omega)]; simp; done) | (rw [World.cell?_alloc_past _ _ _ (by simp <;> omega), World.cell?_alloc_past _ _ _ (by simp <;> omega)]; simp; done) | (rw [World.cell?_alloc_past _ _ _ (by simp <;> omega), World.cell?_alloc_past _ _ _ (by simp <;> omega), World.cell?_alloc_past _ _ _ (by simp <;> omega)]; simp; done) | (rw [World.cell?_alloc_at _ _ _ _ (by simp)]; simp; done) | (rw [World.cell?_alloc_past _ _ _ (by simp <;> omega), World.cell?_alloc_at _ _ _ _ (by simp)]; simp; done) | (rw [World.cell?_alloc_past _ _ _ (by simp <;> omega), World.cell?_alloc_past _ _ _ (by simp <;> omega), World.cell?_alloc_at _ _ _ _ (by simp)]; simp; done) | (rw [World.cell?_alloc_past _ _ _ (by simp <;> omega), World.cell?_alloc_past _ _ _ (by simp <;> omega), World.cell?_alloc_past _ _ _ (by simp <;> omega), World.cell?_alloc_at _ _ _ _ (by simp)]; simp; done))
  have hl_c7_o40_0 : w6.heap.size < w7.heap.size := World.block_lt_of_cell? w7 _ c7_o40_0
  have c7_o40_1 : w7.cell? ⟨w6.heap.size, 1, none⟩ = some (.slice A31 n32 c33) := keepc hb (by first | (simp; done) | (rw [World.cell?_alloc_past _ _ _ (by simp <;> omega)]; simp; done) | (rw [World.cell?_alloc_past _ _ _ (by simp <;> omega), World.cell?_alloc_past _ _ _ (by simp <;> omega)]; simp; done) | (rw [World.cell?_alloc_past _ _ _ (by simp <;> omega), World.cell?_alloc_past _ _ _ (by simp <;> omega), World.cell?_alloc_past _ _ _ (by simp <;> omega)]; simp; done) | (rw [World.cell?_alloc_at _ _ _ _ (by simp)]; simp; done) | (rw [World.cell?_alloc_past _ _ _ (by simp <;> omega), World.cell?_alloc_at _ _ _ _ (by simp)]; simp; done) | (rw [World.cell?_alloc_past _ _ _ (by simp <;> omega), World.cell?_alloc_past _ _ _ (by simp <;> omega), World.cell?_alloc_at _ _ _ _ (by simp)]; simp; done) | (rw [World.cell?_alloc_past _ _ _ (by simp <;> omega), World.cell?_alloc_past _ _ _ (by simp <;> omega), World.cell?_alloc_past _ _ _ (by simp <;> omega), World.cell?_alloc_at _ _ _ _ (by simp)]; simp; done))
  have c7_o40_2 : w7.cell? ⟨w6.heap.size, 2, none⟩ = some (.slice B34 m35 d36) := keepc hb (by first | (simp; done) | (rw [World.cell?_alloc_past _ _ _ (by simp <;> omega)]; simp; done) | (rw [World.cell?_alloc_past _ _ _ (by simp <;> omega), World.cell?_alloc_past _ _ _ (by simp <;> omega)]; simp; done) | (rw [World.cell?_alloc_past _ _ _ (by simp <;> omega), World.cell?_alloc_past _ _ _ (by simp <;> omega), World.cell?_alloc_past _ _ _ (by simp <;> omega)]; simp; done) | (rw [World.cell?_alloc_at _ _ _ _ (by simp)]; simp; done) | (rw [World.cell?_alloc_past _ _ _ (by simp <;> omega), World.cell?_alloc_at _ _ _ _ (by simp)]; simp; done) | (rw [World.cell?_alloc_past _ _ _ (by simp <;> omega), World.cell?_alloc_past _ _ _ (by simp <;> omega), World.cell?_alloc_at _ _ _ _ (by simp)]; simp; done) | (rw [World.cell?_alloc_past _ _ _ (by simp <;> omega), World.cell?_alloc_past _ _ _ (by simp <;> omega), World.cell?_alloc_past _ _ _ (by simp <;> omega), World.cell?_alloc_at _ _ _ _ (by simp)]; simp; done))
  have ac7_o20_0 := fun o => keepa o c7_o20_0
  have ac7_o20_1 := fun o => keepa o c7_o20_1
  have ac7_o20_2 := fun o => keepa o c7_o20_2
  have ac7_o30_0 := fun o => keepa o c7_o30_0
  have ac7_o30_1 := fun o => keepa o c7_o30_1
  have ac7_o30_2 := fun o => keepa o c7_o30_2
  have ac7_o40_0 := fun o => keepa o c7_o40_0
  have ac7_o40_1 := fun o => keepa o c7_o40_1
  have ac7_o40_2 := fun o => keepa o c7_o40_2
  have rFo20 := Fo20.out.below hb'; clear Fo20; have Fo20 := Lib.hid rFo20; clear rFo20
  have rFo30 := Fo30.out.below hb'; clear Fo30; have Fo30 := Lib.hid rFo30; clear rFo30
  have rFo40 := Fo40.out.below hb'; clear Fo40; have Fo40 := Lib.hid rFo40; clear rFo40
  have rB := below_chain B.out (by omega) hb'; clear B; have B := Lib.hid rB; clear rB
  clear hb hb'
  go_wp2_with fail
  refine (heldProof_c _ _ _ _ _ _ _ _ _ _ _ (by exact (Fo30.out.rd)) (by omega) (by omega) hI1_o30 (by omega) (by omega) (by omega)).mono ?_
  rintro e w8 ⟨rfl, hb⟩
  have hb' : Below w7.heap.size w7 w8 := (by first | (with_reducible exact hb) | (with_reducible exact up1 hb) | (with_reducible exact up2 hb) | (with_reducible exact up3 hb) | (with_reducible exact up4 hb) | (with_reducible exact below_of_drew hb) | (with_reducible exact below_of_drew (up1 hb)))
  have z8 := hb'.size
  have c8_o20_0 : w8.cell? ⟨w1.heap.size, 0, none⟩ = some (.int .i64 RR.1.1) := keepc hb' c7_o20_0
  clear c7_o20_0 ac7_o20_0
  have c8_o20_1 : w8.cell? ⟨w1.heap.size, 1, none⟩ = some (.slice A11 n12 c13) := keepc hb' c7_o20_1
  clear c7_o20_1 ac7_o20_1
  have c8_o20_2 : w8.cell? ⟨w1.heap.size, 2, none⟩ = some (.slice B14 m15 d16) := keepc hb' c7_o20_2
  clear c7_o20_2 ac7_o20_2
  have c8_o30_0 : w8.cell? ⟨w2.heap.size, 0, none⟩ = some (.int .i64 RR.1.1) := keepc hb' c7_o30_0
  clear c7_o30_0 ac7_o30_0
  have c8_o30_1 : w8.cell? ⟨w2.heap.size, 1, none⟩ = some (.slice A21 n22 c23) := keepc hb' c7_o30_1
  clear c7_o30_1 ac7_o30_1
  have c8_o30_2 : w8.cell? ⟨w2.heap.size, 2, none⟩ = some (.slice B24 m25 d26) := keepc hb' c7_o30_2
  clear c7_o30_2 ac7_o30_2
  have c8_o40_0 : w8.cell? ⟨w6.heap.size, 0, none⟩ = some (.int .i64 RR.1.1) := keepc hb' c7_o40_0
  clear c7_o40_0 ac7_o40_0
  have c8_o40_1 : w8.cell? ⟨w6.heap.size, 1, none⟩ = some (.slice A31 n32 c33) := keepc hb' c7_o40_1
  clear c7_o40_1 ac7_o40_1
  have c8_o40_2 : w8.cell? ⟨w6.heap.size, 2, none⟩ = some (.slice B34 m35 d36) := keepc hb' c7_o40_2
  clear c7_o40_2 ac7_o40_2
  have ac8_o20_0 := fun o => keepa o c8_o20_0
  have ac8_o20_1 := fun o => keepa o c8_o20_1
  have ac8_o20_2 := fun o => keepa o c8_o20_2
  have ac8_o30_0 := fun o => keepa o c8_o30_0
  have ac8_o30_1 := fun o => keepa o c8_o30_1
  have ac8_o30_2 := fun o => keepa o c8_o30_2
  have ac8_o40_0 := fun o => keepa o c8_o40_0
  have ac8_o40_1 := fun o => keepa o c8_o40_1
  have ac8_o40_2 := fun o => keepa o c8_o40_2
  have rFo20 := Fo20.out.below hb'; clear Fo20; have Fo20 := Lib.hid rFo20; clear rFo20
  have rFo30 := Fo30.out.below hb'; clear Fo30; have Fo30 := Lib.hid rFo30; clear rFo30
  have rFo40 := Fo40.out.below hb'; clear Fo40; have Fo40 := Lib.hid rFo40; clear rFo40
  have rB := below_chain B.out (by omega) hb'; clear B; have B := Lib.hid rB; clear rB
  clear hb hb'
  go_wp2
  go_ret
  exact ⟨rfl, B.out⟩
end Go.Proofs.YtdendllginlidaaGreatDoor
