/-
  FnExactPredecessorsOf returns true for every input: its walk, out of the contracts.
-/
import Derived.Test.YtfahdgmlhinabaaLawMachine
import Derived.Test.YtfahdgmlhinabaaLawPartial
import Derived.Test.YtfahdgmlhinabaaC26w
import Derived.Test.YtfahdgmlhinabaaMixF
import Derived.Test.YtfahdgmlhinabaaOpen
namespace Go.Proofs.Ytfahdgmlhinabaa
open Go.RowKit

set_option maxHeartbeats 4000000 in
set_option maxRecDepth 100000 in
theorem walkPredecessorsOf (sy0 : Int) (st0 : Int) (A0 : Option Addr) (n0 : Nat) (c0 : Nat) (xs0 : List (Int × Int × Int)) (st1 : Int) (at1 : Int) (A1 : Option Addr) (n1 : Nat) (c1 : Nat) (xs1 : List Int) (w : World) (h0 : RdS w [sgX enc3 3 A0 n0 xs0]) (hb0_0 : n0 ≤ 9223372036854775807) (_o0 : i64ok sy0) (_p0 : i64ok st0) (_oo0 : ∀ x ∈ xs0, i64ok x.1 ∧ i64ok x.2.1 ∧ i64ok x.2.2) (h1 : RdS w [sgI A1 n1 xs1]) (hb1_0 : n1 ≤ 9223372036854775807) (_o1 : i64ok st1) (_p1 : i64ok at1) (_oo1 : ∀ x ∈ xs1, i64ok x) :
    Calls Try.prog 4 #[.agg #[.int .i64 sy0, .int .i64 st0, .slice A0 n0 c0], .agg #[.int .i64 st1, .int .i64 at1, .slice A1 n1 c1]] w fun e w' => e = .returned (.bool true) ∧ Below w.heap.size w w' := by
  have P0 := Lib.hid (RdSU.mk' h0); clear h0
  have P1 := Lib.hid (RdSU.mk' h1); clear h1
  go_enter Try.func4, Try.ntmps4
  go_wp2_with fail
  refine (szMachine_c _ _ _ _ _ xs0 _ _ hb0_0 (by omega) (by omega)).mono ?_
  rintro e w1 ⟨rfl, hb⟩
  have hb' : Below w.heap.size w w1 := (by first | (with_reducible exact hb) | (with_reducible exact up1 hb) | (with_reducible exact up2 hb) | (with_reducible exact up3 hb) | (with_reducible exact up4 hb) | (with_reducible exact below_of_drew hb) | (with_reducible exact below_of_drew (up1 hb)))
  have z1 := hb'.size
  have c1_a0_0 : w1.cell? ⟨w.heap.size, 0, none⟩ = some (.int .i64 sy0) := keepc hb (by first | (simp; done) | (rw [World.cell?_alloc_past _ _ _ (by simp <;> omega)]; simp; done) | (rw [World.cell?_alloc_past _ _ _ (by simp <;> omega), World.cell?_alloc_past _ _ _ (by simp <;> omega)]; simp; done) | (rw [World.cell?_alloc_past _ _ _ (by simp <;> omega), World.cell?_alloc_past _ _ _ (by simp <;> omega), World.cell?_alloc_past _ _ _ (by simp <;> omega)]; simp; done) | (rw [World.cell?_alloc_at _ _ _ _ (by simp)]; simp; done) | (rw [World.cell?_alloc_past _ _ _ (by simp <;> omega), World.cell?_alloc_at _ _ _ _ (by simp)]; simp; done) | (rw [World.cell?_alloc_past _ _ _ (by simp <;> omega), World.cell?_alloc_past _ _ _ (by simp <;> omega), World.cell?_alloc_at _ _ _ _ (by simp)]; simp; done) | (rw [World.cell?_alloc_past _ _ _ (by simp <;> omega), World.cell?_alloc_past _ _ _ (by simp <;> omega), World.cell?_alloc_past _ _ _ (by simp <;> omega), World.cell?_alloc_at _ _ _ _ (by simp)]; simp; done))
  have hl_c1_a0_0 : w.heap.size < w1.heap.size := World.block_lt_of_cell? w1 _ c1_a0_0
  have c1_a0_1 : w1.cell? ⟨w.heap.size, 1, none⟩ = some (.int .i64 st0) := keepc hb (by first | (simp; done) | (rw [World.cell?_alloc_past _ _ _ (by simp <;> omega)]; simp; done) | (rw [World.cell?_alloc_past _ _ _ (by simp <;> omega), World.cell?_alloc_past _ _ _ (by simp <;> omega)]; simp; done) | (rw [World.cell?_alloc_past _ _ _ (by simp <;> omega), World.cell?_alloc_past _ _ _ (by simp <;> omega), World.cell?_alloc_past _ _ _ (by simp <;> omega)]; simp; done) | (rw [World.cell?_alloc_at _ _ _ _ (by simp)]; simp; done) | (rw [World.cell?_alloc_past _ _ _ (by simp <;> omega), World.cell?_alloc_at _ _ _ _ (by simp)]; simp; done) | (rw [World.cell?_alloc_past _ _ _ (by simp <;> omega), World.cell?_alloc_past _ _ _ (by simp <;> omega), World.cell?_alloc_at _ _ _ _ (by simp)]; simp; done) | (rw [World.cell?_alloc_past _ _ _ (by simp <;> omega), World.cell?_alloc_past _ _ _ (by simp <;> omega), World.cell?_alloc_past _ _ _ (by simp <;> omega), World.cell?_alloc_at _ _ _ _ (by simp)]; simp; done))
  have c1_a0_2 : w1.cell? ⟨w.heap.size, 2, none⟩ = some (.slice A0 n0 c0) := keepc hb (by first | (simp; done) | (rw [World.cell?_alloc_past _ _ _ (by simp <;> omega)]; simp; done) | (rw [World.cell?_alloc_past _ _ _ (by simp <;> omega), World.cell?_alloc_past _ _ _ (by simp <;> omega)]; simp; done) | (rw [World.cell?_alloc_past _ _ _ (by simp <;> omega), World.cell?_alloc_past _ _ _ (by simp <;> omega), World.cell?_alloc_past _ _ _ (by simp <;> omega)]; simp; done) | (rw [World.cell?_alloc_at _ _ _ _ (by simp)]; simp; done) | (rw [World.cell?_alloc_past _ _ _ (by simp <;> omega), World.cell?_alloc_at _ _ _ _ (by simp)]; simp; done) | (rw [World.cell?_alloc_past _ _ _ (by simp <;> omega), World.cell?_alloc_past _ _ _ (by simp <;> omega), World.cell?_alloc_at _ _ _ _ (by simp)]; simp; done) | (rw [World.cell?_alloc_past _ _ _ (by simp <;> omega), World.cell?_alloc_past _ _ _ (by simp <;> omega), World.cell?_alloc_past _ _ _ (by simp <;> omega), World.cell?_alloc_at _ _ _ _ (by simp)]; simp; done))
  have c1_a1_0 : w1.cell? ⟨(w.heap.size + 1), 0, none⟩ = some (.int .i64 st1) := keepc hb (by first | (simp; done) | (rw [World.cell?_alloc_past _ _ _ (by simp <;> omega)]; simp; done) | (rw [World.cell?_alloc_past _ _ _ (by simp <;> omega), World.cell?_alloc_past _ _ _ (by simp <;> omega)]; simp; done) | (rw [World.cell?_alloc_past _ _ _ (by simp <;> omega), World.cell?_alloc_past _ _ _ (by simp <;> omega), World.cell?_alloc_past _ _ _ (by simp <;> omega)]; simp; done) | (rw [World.cell?_alloc_at _ _ _ _ (by simp)]; simp; done) | (rw [World.cell?_alloc_past _ _ _ (by simp <;> omega), World.cell?_alloc_at _ _ _ _ (by simp)]; simp; done) | (rw [World.cell?_alloc_past _ _ _ (by simp <;> omega), World.cell?_alloc_past _ _ _ (by simp <;> omega), World.cell?_alloc_at _ _ _ _ (by simp)]; simp; done) | (rw [World.cell?_alloc_past _ _ _ (by simp <;> omega), World.cell?_alloc_past _ _ _ (by simp <;> omega), World.cell?_alloc_past _ _ _ (by simp <;> omega), World.cell?_alloc_at _ _ _ _ (by simp)]; simp; done))
  have hl_c1_a1_0 : (w.heap.size + 1) < w1.heap.size := World.block_lt_of_cell? w1 _ c1_a1_0
  have c1_a1_1 : w1.cell? ⟨(w.heap.size + 1), 1, none⟩ = some (.int .i64 at1) := keepc hb (by first | (simp; done) | (rw [World.cell?_alloc_past _ _ _ (by simp <;> omega)]; simp; done) | (rw [World.cell?_alloc_past _ _ _ (by simp <;> omega), World.cell?_alloc_past _ _ _ (by simp <;> omega)]; simp; done) | (rw [World.cell?_alloc_past _ _ _ (by simp <;> omega), World.cell?_alloc_past _ _ _ (by simp <;> omega), World.cell?_alloc_past _ _ _ (by simp <;> omega)]; simp; done) | (rw [World.cell?_alloc_at _ _ _ _ (by simp)]; simp; done) | (rw [World.cell?_alloc_past _ _ _ (by simp <;> omega), World.cell?_alloc_at _ _ _ _ (by simp)]; simp; done) | (rw [World.cell?_alloc_past _ _ _ (by simp <;> omega), World.cell?_alloc_past _ _ _ (by simp <;> omega), World.cell?_alloc_at _ _ _ _ (by simp)]; simp; done) | (rw [World.cell?_alloc_past _ _ _ (by simp <;> omega), World.cell?_alloc_past _ _ _ (by simp <;> omega), World.cell?_alloc_past _ _ _ (by simp <;> omega), World.cell?_alloc_at _ _ _ _ (by simp)]; simp; done))
  have c1_a1_2 : w1.cell? ⟨(w.heap.size + 1), 2, none⟩ = some (.slice A1 n1 c1) := keepc hb (by first | (simp; done) | (rw [World.cell?_alloc_past _ _ _ (by simp <;> omega)]; simp; done) | (rw [World.cell?_alloc_past _ _ _ (by simp <;> omega), World.cell?_alloc_past _ _ _ (by simp <;> omega)]; simp; done) | (rw [World.cell?_alloc_past _ _ _ (by simp <;> omega), World.cell?_alloc_past _ _ _ (by simp <;> omega), World.cell?_alloc_past _ _ _ (by simp <;> omega)]; simp; done) | (rw [World.cell?_alloc_at _ _ _ _ (by simp)]; simp; done) | (rw [World.cell?_alloc_past _ _ _ (by simp <;> omega), World.cell?_alloc_at _ _ _ _ (by simp)]; simp; done) | (rw [World.cell?_alloc_past _ _ _ (by simp <;> omega), World.cell?_alloc_past _ _ _ (by simp <;> omega), World.cell?_alloc_at _ _ _ _ (by simp)]; simp; done) | (rw [World.cell?_alloc_past _ _ _ (by simp <;> omega), World.cell?_alloc_past _ _ _ (by simp <;> omega), World.cell?_alloc_past _ _ _ (by simp <;> omega), World.cell?_alloc_at _ _ _ _ (by simp)]; simp; done))
  have ac1_a0_0 := fun o => keepa o c1_a0_0
  have ac1_a0_1 := fun o => keepa o c1_a0_1
  have ac1_a0_2 := fun o => keepa o c1_a0_2
  have ac1_a1_0 := fun o => keepa o c1_a1_0
  have ac1_a1_1 := fun o => keepa o c1_a1_1
  have ac1_a1_2 := fun o => keepa o c1_a1_2
  have rP0 := P0.out.below hb'; clear P0; have P0 := Lib.hid rP0; clear rP0
  have rP1 := P1.out.below hb'; clear P1; have P1 := Lib.hid rP1; clear rP1
  have rB := hb'; have B := Lib.hid rB; clear rB
  clear hb hb'
  by_cases hs1 : 1048576 < n0
  · rw [szOf_neg' (by omega)]
    go_wp2
    go_ret
    exact ⟨rfl, B.out⟩
  rw [szOf_pos' (by omega)]
  have hs1' : (0 : Int) ≤ 1048576 - (n0 : Nat) := by omega
  go_wp2_with fail
  refine (szPartial_c _ _ _ _ _ xs1 _ _ hb1_0 (by omega) (by omega)).mono ?_
  rintro e w2 ⟨rfl, hb⟩
  have hb' : Below w1.heap.size w1 w2 := (by first | (with_reducible exact hb) | (with_reducible exact up1 hb) | (with_reducible exact up2 hb) | (with_reducible exact up3 hb) | (with_reducible exact up4 hb) | (with_reducible exact below_of_drew hb) | (with_reducible exact below_of_drew (up1 hb)))
  have z2 := hb'.size
  have c2_a0_0 : w2.cell? ⟨w.heap.size, 0, none⟩ = some (.int .i64 sy0) := keepc hb' c1_a0_0
  clear c1_a0_0 ac1_a0_0
  have c2_a0_1 : w2.cell? ⟨w.heap.size, 1, none⟩ = some (.int .i64 st0) := keepc hb' c1_a0_1
  clear c1_a0_1 ac1_a0_1
  have c2_a0_2 : w2.cell? ⟨w.heap.size, 2, none⟩ = some (.slice A0 n0 c0) := keepc hb' c1_a0_2
  clear c1_a0_2 ac1_a0_2
  have c2_a1_0 : w2.cell? ⟨(w.heap.size + 1), 0, none⟩ = some (.int .i64 st1) := keepc hb' c1_a1_0
  clear c1_a1_0 ac1_a1_0
  have c2_a1_1 : w2.cell? ⟨(w.heap.size + 1), 1, none⟩ = some (.int .i64 at1) := keepc hb' c1_a1_1
  clear c1_a1_1 ac1_a1_1
  have c2_a1_2 : w2.cell? ⟨(w.heap.size + 1), 2, none⟩ = some (.slice A1 n1 c1) := keepc hb' c1_a1_2
  clear c1_a1_2 ac1_a1_2
  have ac2_a0_0 := fun o => keepa o c2_a0_0
  have ac2_a0_1 := fun o => keepa o c2_a0_1
  have ac2_a0_2 := fun o => keepa o c2_a0_2
  have ac2_a1_0 := fun o => keepa o c2_a1_0
  have ac2_a1_1 := fun o => keepa o c2_a1_1
  have ac2_a1_2 := fun o => keepa o c2_a1_2
  have rP0 := P0.out.below hb'; clear P0; have P0 := Lib.hid rP0; clear rP0
  have rP1 := P1.out.below hb'; clear P1; have P1 := Lib.hid rP1; clear rP1
  have rB := below_chain B.out (by omega) hb'; clear B; have B := Lib.hid rB; clear rB
  clear hb hb'
  by_cases hs2 : 1048576 - (n0 : Nat) < n1
  · rw [szOf_neg' (by omega)]
    go_wp2
    go_ret
    exact ⟨rfl, B.out⟩
  rw [szOf_pos' (by omega)]
  have hs2' : (0 : Int) ≤ 1048576 - (n0 : Nat) - (n1 : Nat) := by omega
  go_wp2_with fail
  have fx_c2_a0_0 := Ext.cell c2_a0_0
  have fx_c2_a0_1 := Ext.cell c2_a0_1
  have fx_c2_a0_2 := Ext.cell c2_a0_2
  have fx_c2_a1_0 := Ext.cell c2_a1_0
  have fx_c2_a1_1 := Ext.cell c2_a1_1
  have fx_c2_a1_2 := Ext.cell c2_a1_2
  refine Mix.wp_region_mix [3, 1, 3, 1, 1, 0, 0, 0, 0, 0] (fun w' => ∃ x : Ext w2, w' = x.w) (by kernel_rfl) (by kernel_rfl) (InExt.drew _) ?_
  repeat (first | (refine Mix.wpMix_read (by rfl) ?_; go_big_quiet_step (fail); refine wpQuiet_nil ?_) | (refine Mix.wpMix_pure (by rfl) ?_; go_big_quiet_step (fail); refine wpQuiet_nil ?_))
  refine Mix.wpMix_chg (by rfl) (fun K hK => ?_)
  go_wp2_with fail
  refine (toMachine_c _ _ _ _ _ _ _ (by exact (P0.out.rd)) (by omega)).mono ?_
  rintro e w3 ⟨g011, rfl, q3, hb⟩
  have hb' : Below w2.heap.size w2 w3 := (by first | (with_reducible exact hb) | (with_reducible exact up1 hb) | (with_reducible exact up2 hb) | (with_reducible exact up3 hb) | (with_reducible exact up4 hb) | (with_reducible exact below_of_drew hb) | (with_reducible exact below_of_drew (up1 hb)))
  have z3 := hb'.size
  have c3_a0_0 : w3.cell? ⟨w.heap.size, 0, none⟩ = some (.int .i64 sy0) := keepc hb' c2_a0_0
  clear c2_a0_0 ac2_a0_0
  have c3_a0_1 : w3.cell? ⟨w.heap.size, 1, none⟩ = some (.int .i64 st0) := keepc hb' c2_a0_1
  clear c2_a0_1 ac2_a0_1
  have c3_a0_2 : w3.cell? ⟨w.heap.size, 2, none⟩ = some (.slice A0 n0 c0) := keepc hb' c2_a0_2
  clear c2_a0_2 ac2_a0_2
  have c3_a1_0 : w3.cell? ⟨(w.heap.size + 1), 0, none⟩ = some (.int .i64 st1) := keepc hb' c2_a1_0
  clear c2_a1_0 ac2_a1_0
  have c3_a1_1 : w3.cell? ⟨(w.heap.size + 1), 1, none⟩ = some (.int .i64 at1) := keepc hb' c2_a1_1
  clear c2_a1_1 ac2_a1_1
  have c3_a1_2 : w3.cell? ⟨(w.heap.size + 1), 2, none⟩ = some (.slice A1 n1 c1) := keepc hb' c2_a1_2
  clear c2_a1_2 ac2_a1_2
  have ac3_a0_0 := fun o => keepa o c3_a0_0
  have ac3_a0_1 := fun o => keepa o c3_a0_1
  have ac3_a0_2 := fun o => keepa o c3_a0_2
  have ac3_a1_0 := fun o => keepa o c3_a1_0
  have ac3_a1_1 := fun o => keepa o c3_a1_1
  have ac3_a1_2 := fun o => keepa o c3_a1_2
  have rP0 := P0.out.below hb'; clear P0; have P0 := Lib.hid rP0; clear rP0
  have rP1 := P1.out.below hb'; clear P1; have P1 := Lib.hid rP1; clear rP1
  have rB := below_chain B.out (by omega) hb'; clear B; have B := Lib.hid rB; clear rB
  have Fo12 := Lib.hid q3; clear q3
  have em3 : Below w2.heap.size w2 w3 := hb'
  clear hb hb'
  go_wp2_with fail
  refine hK _ _ ⟨⟨_, em3⟩, rfl⟩ ?_
  clear hK K
  repeat (first | (refine Mix.wpMix_read (by rfl) ?_; go_big_quiet_step (fail); refine wpQuiet_nil ?_) | (refine Mix.wpMix_pure (by rfl) ?_; go_big_quiet_step (fail); refine wpQuiet_nil ?_))
  refine Mix.wpMix_chg (by rfl) (fun K hK => ?_)
  go_wp2_with fail
  refine (toPartial_c _ _ _ _ _ _ _ (by exact (P1.out.rd)) (by omega)).mono ?_
  rintro e w4 ⟨g013, rfl, q4, hb⟩
  have hb' : Below w3.heap.size w3 w4 := (by first | (with_reducible exact hb) | (with_reducible exact up1 hb) | (with_reducible exact up2 hb) | (with_reducible exact up3 hb) | (with_reducible exact up4 hb) | (with_reducible exact below_of_drew hb) | (with_reducible exact below_of_drew (up1 hb)))
  have z4 := hb'.size
  have c4_a0_0 : w4.cell? ⟨w.heap.size, 0, none⟩ = some (.int .i64 sy0) := keepc hb' c3_a0_0
  clear c3_a0_0 ac3_a0_0
  have c4_a0_1 : w4.cell? ⟨w.heap.size, 1, none⟩ = some (.int .i64 st0) := keepc hb' c3_a0_1
  clear c3_a0_1 ac3_a0_1
  have c4_a0_2 : w4.cell? ⟨w.heap.size, 2, none⟩ = some (.slice A0 n0 c0) := keepc hb' c3_a0_2
  clear c3_a0_2 ac3_a0_2
  have c4_a1_0 : w4.cell? ⟨(w.heap.size + 1), 0, none⟩ = some (.int .i64 st1) := keepc hb' c3_a1_0
  clear c3_a1_0 ac3_a1_0
  have c4_a1_1 : w4.cell? ⟨(w.heap.size + 1), 1, none⟩ = some (.int .i64 at1) := keepc hb' c3_a1_1
  clear c3_a1_1 ac3_a1_1
  have c4_a1_2 : w4.cell? ⟨(w.heap.size + 1), 2, none⟩ = some (.slice A1 n1 c1) := keepc hb' c3_a1_2
  clear c3_a1_2 ac3_a1_2
  have ac4_a0_0 := fun o => keepa o c4_a0_0
  have ac4_a0_1 := fun o => keepa o c4_a0_1
  have ac4_a0_2 := fun o => keepa o c4_a0_2
  have ac4_a1_0 := fun o => keepa o c4_a1_0
  have ac4_a1_1 := fun o => keepa o c4_a1_1
  have ac4_a1_2 := fun o => keepa o c4_a1_2
  have rP0 := P0.out.below hb'; clear P0; have P0 := Lib.hid rP0; clear rP0
  have rP1 := P1.out.below hb'; clear P1; have P1 := Lib.hid rP1; clear rP1
  have rFo12 := Fo12.out.below hb'; clear Fo12; have Fo12 := Lib.hid rFo12; clear rFo12
  have rB := below_chain B.out (by omega) hb'; clear B; have B := Lib.hid rB; clear rB
  have Fo14 := Lib.hid q4; clear q4
  have em4 : Below w2.heap.size w2 w4 := below_chain em3 (by omega) hb'
  clear hb hb'
  go_wp2_with fail
  refine hK _ _ ⟨⟨_, em4⟩, rfl⟩ ?_
  clear hK K
  refine Mix.wpMix_chg (by rfl) (fun K hK => ?_)
  go_wp2_with fail
  refine (sPredecessorsOf_c _ _ _ _ _ _ _ _ _ _ _ _ _ (by exact (Fo12.out.rd)) (by exact (Fo14.out.rd)) (by omega) (by omega)).mono ?_
  rintro e w5 ⟨A15, n16, c17, ps18, rfl, q19, l20, hb⟩
  have hb' : Below w4.heap.size w4 w5 := (by first | (with_reducible exact hb) | (with_reducible exact up1 hb) | (with_reducible exact up2 hb) | (with_reducible exact up3 hb) | (with_reducible exact up4 hb) | (with_reducible exact below_of_drew hb) | (with_reducible exact below_of_drew (up1 hb)))
  have z5 := hb'.size
  have c5_a0_0 : w5.cell? ⟨w.heap.size, 0, none⟩ = some (.int .i64 sy0) := keepc hb' c4_a0_0
  clear c4_a0_0 ac4_a0_0
  have c5_a0_1 : w5.cell? ⟨w.heap.size, 1, none⟩ = some (.int .i64 st0) := keepc hb' c4_a0_1
  clear c4_a0_1 ac4_a0_1
  have c5_a0_2 : w5.cell? ⟨w.heap.size, 2, none⟩ = some (.slice A0 n0 c0) := keepc hb' c4_a0_2
  clear c4_a0_2 ac4_a0_2
  have c5_a1_0 : w5.cell? ⟨(w.heap.size + 1), 0, none⟩ = some (.int .i64 st1) := keepc hb' c4_a1_0
  clear c4_a1_0 ac4_a1_0
  have c5_a1_1 : w5.cell? ⟨(w.heap.size + 1), 1, none⟩ = some (.int .i64 at1) := keepc hb' c4_a1_1
  clear c4_a1_1 ac4_a1_1
  have c5_a1_2 : w5.cell? ⟨(w.heap.size + 1), 2, none⟩ = some (.slice A1 n1 c1) := keepc hb' c4_a1_2
  clear c4_a1_2 ac4_a1_2
  have ac5_a0_0 := fun o => keepa o c5_a0_0
  have ac5_a0_1 := fun o => keepa o c5_a0_1
  have ac5_a0_2 := fun o => keepa o c5_a0_2
  have ac5_a1_0 := fun o => keepa o c5_a1_0
  have ac5_a1_1 := fun o => keepa o c5_a1_1
  have ac5_a1_2 := fun o => keepa o c5_a1_2
  have rP0 := P0.out.below hb'; clear P0; have P0 := Lib.hid rP0; clear rP0
  have rP1 := P1.out.below hb'; clear P1; have P1 := Lib.hid rP1; clear rP1
  have rFo12 := Fo12.out.below hb'; clear Fo12; have Fo12 := Lib.hid rFo12; clear rFo12
  have rFo14 := Fo14.out.below hb'; clear Fo14; have Fo14 := Lib.hid rFo14; clear rFo14
  have rB := below_chain B.out (by omega) hb'; clear B; have B := Lib.hid rB; clear rB
  have Fo21 := Lib.hid q19; clear q19
  obtain ⟨ln_o21, bI0_o21, hs0_o21, bm0_o21⟩ := l20
  have hI0_o21 := (fun t ht => Nat.le_trans (bI0_o21 t ht) (by omega) : ∀ t ∈ ps18, t.n ≤ 1000000000); have hm0_o21 := Lib.hid bm0_o21; clear bI0_o21 bm0_o21
  have em5 : Below w2.heap.size w2 w5 := below_chain em4 (by omega) hb'
  clear hb hb'
  go_wp2_with fail
  refine hK _ _ ⟨⟨_, em5⟩, rfl⟩ ?_
  clear hK K
  repeat (first | (refine Mix.wpMix_read (by rfl) ?_; go_big_quiet_step (fail); refine wpQuiet_nil ?_) | (refine Mix.wpMix_pure (by rfl) ?_; go_big_quiet_step (fail); refine wpQuiet_nil ?_))
  (refine Mix.wpMix_nil ?_; try simp only [Exit.then])
  clear fx_c2_a0_0
  clear fx_c2_a0_1
  clear fx_c2_a0_2
  clear fx_c2_a1_0
  clear fx_c2_a1_1
  clear fx_c2_a1_2
  clear Fo12
  clear Fo14
  go_wp2_with fail
  refine (toMachine_c _ _ _ _ _ _ _ (by exact (P0.out.rd)) (by omega)).mono ?_
  rintro e w6 ⟨g022, rfl, q6, hb⟩
  have hb' : Below w5.heap.size w5 w6 := (by first | (with_reducible exact hb) | (with_reducible exact up1 hb) | (with_reducible exact up2 hb) | (with_reducible exact up3 hb) | (with_reducible exact up4 hb) | (with_reducible exact below_of_drew hb) | (with_reducible exact below_of_drew (up1 hb)))
  have z6 := hb'.size
  have c6_a0_0 : w6.cell? ⟨w.heap.size, 0, none⟩ = some (.int .i64 sy0) := keepc hb' c5_a0_0
  clear c5_a0_0 ac5_a0_0
  have c6_a0_1 : w6.cell? ⟨w.heap.size, 1, none⟩ = some (.int .i64 st0) := keepc hb' c5_a0_1
  clear c5_a0_1 ac5_a0_1
  have c6_a0_2 : w6.cell? ⟨w.heap.size, 2, none⟩ = some (.slice A0 n0 c0) := keepc hb' c5_a0_2
  clear c5_a0_2 ac5_a0_2
  have c6_a1_0 : w6.cell? ⟨(w.heap.size + 1), 0, none⟩ = some (.int .i64 st1) := keepc hb' c5_a1_0
  clear c5_a1_0 ac5_a1_0
  have c6_a1_1 : w6.cell? ⟨(w.heap.size + 1), 1, none⟩ = some (.int .i64 at1) := keepc hb' c5_a1_1
  clear c5_a1_1 ac5_a1_1
  have c6_a1_2 : w6.cell? ⟨(w.heap.size + 1), 2, none⟩ = some (.slice A1 n1 c1) := keepc hb' c5_a1_2
  clear c5_a1_2 ac5_a1_2
  have ac6_a0_0 := fun o => keepa o c6_a0_0
  have ac6_a0_1 := fun o => keepa o c6_a0_1
  have ac6_a0_2 := fun o => keepa o c6_a0_2
  have ac6_a1_0 := fun o => keepa o c6_a1_0
  have ac6_a1_1 := fun o => keepa o c6_a1_1
  have ac6_a1_2 := fun o => keepa o c6_a1_2
  have rP0 := P0.out.below hb'; clear P0; have P0 := Lib.hid rP0; clear rP0
  have rP1 := P1.out.below hb'; clear P1; have P1 := Lib.hid rP1; clear rP1
  have rFo21 := Fo21.out.below hb'; clear Fo21; have Fo21 := Lib.hid rFo21; clear rFo21
  have rB := below_chain B.out (by omega) hb'; clear B; have B := Lib.hid rB; clear rB
  have Fo23 := Lib.hid q6; clear q6
  clear hb hb'
  go_wp2_with fail
  refine (toPartial_c _ _ _ _ _ _ _ (by exact ((P1.out.rd).alloc _)) (by omega)).mono ?_
  rintro e w7 ⟨g024, rfl, q7, hb⟩
  try simp only [World.size_alloc] at q7
  have hb' : Below w6.heap.size w6 w7 := (by first | (with_reducible exact hb) | (with_reducible exact up1 hb) | (with_reducible exact up2 hb) | (with_reducible exact up3 hb) | (with_reducible exact up4 hb) | (with_reducible exact below_of_drew hb) | (with_reducible exact below_of_drew (up1 hb)))
  have z7 := hb'.size
  have c7_a0_0 : w7.cell? ⟨w.heap.size, 0, none⟩ = some (.int .i64 sy0) := keepc hb' c6_a0_0
  clear c6_a0_0 ac6_a0_0
  have c7_a0_1 : w7.cell? ⟨w.heap.size, 1, none⟩ = some (.int .i64 st0) := keepc hb' c6_a0_1
  clear c6_a0_1 ac6_a0_1
  have c7_a0_2 : w7.cell? ⟨w.heap.size, 2, none⟩ = some (.slice A0 n0 c0) := keepc hb' c6_a0_2
  clear c6_a0_2 ac6_a0_2
  have c7_a1_0 : w7.cell? ⟨(w.heap.size + 1), 0, none⟩ = some (.int .i64 st1) := keepc hb' c6_a1_0
  clear c6_a1_0 ac6_a1_0
  have c7_a1_1 : w7.cell? ⟨(w.heap.size + 1), 1, none⟩ = some (.int .i64 at1) := keepc hb' c6_a1_1
  clear c6_a1_1 ac6_a1_1
  have c7_a1_2 : w7.cell? ⟨(w.heap.size + 1), 2, none⟩ = some (.slice A1 n1 c1) := keepc hb' c6_a1_2
  clear c6_a1_2 ac6_a1_2
  have c7_o23_0 : w7.cell? ⟨w6.heap.size, 0, none⟩ = some (.int .i64 sy0) := keepc hb (by first | (simp; done) | (rw [World.cell?_alloc_past _ _ _ (by simp <;> omega)]; simp; done) | (rw [World.cell?_alloc_past _ _ _ (by simp <;> omega), World.cell?_alloc_past _ _ _ (by simp <;> omega)]; simp; done) | (rw [World.cell?_alloc_past _ _ _ (by simp <;> omega), World.cell?_alloc_past _ _ _ (by simp <;> omega), World.cell?_alloc_past _ _ _ (by simp <;> omega)]; simp; done) | (rw [World.cell?_alloc_at _ _ _ _ (by simp)]; simp; done) | (rw [World.cell?_alloc_past _ _ _ (by simp <;> omega), World.cell?_alloc_at _ _ _ _ (by simp)]; simp; done) | (rw [World.cell?_alloc_past _ _ _ (by simp <;> omega), World.cell?_alloc_past _ _ _ (by simp <;> omega), World.cell?_alloc_at _ _ _ _ (by simp)]; simp; done) | (rw [World.cell?_alloc_past _ _ _ (by simp <;> omega), World.cell?_alloc_past _ _ _ (by simp <;> omega), World.cell?_alloc_past _ _ _ (by simp <;> omega), World.cell?_alloc_at _ _ _ _ (by simp)]; simp; done))
  have hl_c7_o23_0 : w6.heap.size < w7.heap.size := World.block_lt_of_cell? w7 _ c7_o23_0
  have c7_o23_1 : w7.cell? ⟨w6.heap.size, 1, none⟩ = some (.int .i64 st0) := keepc hb (by first | (simp; done) | (rw [World.cell?_alloc_past _ _ _ (by simp <;> omega)]; simp; done) | (rw [World.cell?_alloc_past _ _ _ (by simp <;> omega), World.cell?_alloc_past _ _ _ (by simp <;> omega)]; simp; done) | (rw [World.cell?_alloc_past _ _ _ (by simp <;> omega), World.cell?_alloc_past _ _ _ (by simp <;> omega), World.cell?_alloc_past _ _ _ (by simp <;> omega)]; simp; done) | (rw [World.cell?_alloc_at _ _ _ _ (by simp)]; simp; done) | (rw [World.cell?_alloc_past _ _ _ (by simp <;> omega), World.cell?_alloc_at _ _ _ _ (by simp)]; simp; done) | (rw [World.cell?_alloc_past _ _ _ (by simp <;> omega), World.cell?_alloc_past _ _ _ (by simp <;> omega), World.cell?_alloc_at _ _ _ _ (by simp)]; simp; done) | (rw [World.cell?_alloc_past _ _ _ (by simp <;> omega), World.cell?_alloc_past _ _ _ (by simp <;> omega), World.cell?_alloc_past _ _ _ (by simp <;> omega), World.cell?_alloc_at _ _ _ _ (by simp)]; simp; done))
  have c7_o23_2 : w7.cell? ⟨w6.heap.size, 2, none⟩ = some (.slice (some ⟨g022, 0, none⟩) n0 n0) := keepc hb (by first | (simp; done) | (rw [World.cell?_alloc_past _ _ _ (by simp <;> omega)]; simp; done) | (rw [World.cell?_alloc_past _ _ _ (by simp <;> omega), World.cell?_alloc_past _ _ _ (by simp <;> omega)]; simp; done) | (rw [World.cell?_alloc_past _ _ _ (by simp <;> omega), World.cell?_alloc_past _ _ _ (by simp <;> omega), World.cell?_alloc_past _ _ _ (by simp <;> omega)]; simp; done) | (rw [World.cell?_alloc_at _ _ _ _ (by simp)]; simp; done) | (rw [World.cell?_alloc_past _ _ _ (by simp <;> omega), World.cell?_alloc_at _ _ _ _ (by simp)]; simp; done) | (rw [World.cell?_alloc_past _ _ _ (by simp <;> omega), World.cell?_alloc_past _ _ _ (by simp <;> omega), World.cell?_alloc_at _ _ _ _ (by simp)]; simp; done) | (rw [World.cell?_alloc_past _ _ _ (by simp <;> omega), World.cell?_alloc_past _ _ _ (by simp <;> omega), World.cell?_alloc_past _ _ _ (by simp <;> omega), World.cell?_alloc_at _ _ _ _ (by simp)]; simp; done))
  have ac7_a0_0 := fun o => keepa o c7_a0_0
  have ac7_a0_1 := fun o => keepa o c7_a0_1
  have ac7_a0_2 := fun o => keepa o c7_a0_2
  have ac7_a1_0 := fun o => keepa o c7_a1_0
  have ac7_a1_1 := fun o => keepa o c7_a1_1
  have ac7_a1_2 := fun o => keepa o c7_a1_2
  have ac7_o23_0 := fun o => keepa o c7_o23_0
  have ac7_o23_1 := fun o => keepa o c7_o23_1
  have ac7_o23_2 := fun o => keepa o c7_o23_2
  have rP0 := P0.out.below hb'; clear P0; have P0 := Lib.hid rP0; clear rP0
  have rP1 := P1.out.below hb'; clear P1; have P1 := Lib.hid rP1; clear rP1
  have rFo21 := Fo21.out.below hb'; clear Fo21; have Fo21 := Lib.hid rFo21; clear rFo21
  have rFo23 := Fo23.out.below hb'; clear Fo23; have Fo23 := Lib.hid rFo23; clear rFo23
  have rB := below_chain B.out (by omega) hb'; clear B; have B := Lib.hid rB; clear rB
  have Fo25 := Lib.hid q7; clear q7
  clear hb hb'
  go_wp2_with fail
  refine (iPredecessorsOf_c _ _ _ _ _ _ _ _ _ _ _ _ _ (by exact ((Fo23.out.rd).alloc _)) (by exact ((Fo25.out.rd).alloc _)) (by omega) (by omega)).mono ?_
  rintro e w8 ⟨A26, n27, c28, ps29, rfl, q30, l31, hb⟩
  try simp only [World.size_alloc] at q30
  have hb' : Below w7.heap.size w7 w8 := (by first | (with_reducible exact hb) | (with_reducible exact up1 hb) | (with_reducible exact up2 hb) | (with_reducible exact up3 hb) | (with_reducible exact up4 hb) | (with_reducible exact below_of_drew hb) | (with_reducible exact below_of_drew (up1 hb)))
  have z8 := hb'.size
  have c8_a0_0 : w8.cell? ⟨w.heap.size, 0, none⟩ = some (.int .i64 sy0) := keepc hb' c7_a0_0
  clear c7_a0_0 ac7_a0_0
  have c8_a0_1 : w8.cell? ⟨w.heap.size, 1, none⟩ = some (.int .i64 st0) := keepc hb' c7_a0_1
  clear c7_a0_1 ac7_a0_1
  have c8_a0_2 : w8.cell? ⟨w.heap.size, 2, none⟩ = some (.slice A0 n0 c0) := keepc hb' c7_a0_2
  clear c7_a0_2 ac7_a0_2
  have c8_a1_0 : w8.cell? ⟨(w.heap.size + 1), 0, none⟩ = some (.int .i64 st1) := keepc hb' c7_a1_0
  clear c7_a1_0 ac7_a1_0
  have c8_a1_1 : w8.cell? ⟨(w.heap.size + 1), 1, none⟩ = some (.int .i64 at1) := keepc hb' c7_a1_1
  clear c7_a1_1 ac7_a1_1
  have c8_a1_2 : w8.cell? ⟨(w.heap.size + 1), 2, none⟩ = some (.slice A1 n1 c1) := keepc hb' c7_a1_2
  clear c7_a1_2 ac7_a1_2
  have c8_o23_0 : w8.cell? ⟨w6.heap.size, 0, none⟩ = some (.int .i64 sy0) := keepc hb' c7_o23_0
  clear c7_o23_0 ac7_o23_0
  have c8_o23_1 : w8.cell? ⟨w6.heap.size, 1, none⟩ = some (.int .i64 st0) := keepc hb' c7_o23_1
  clear c7_o23_1 ac7_o23_1
  have c8_o23_2 : w8.cell? ⟨w6.heap.size, 2, none⟩ = some (.slice (some ⟨g022, 0, none⟩) n0 n0) := keepc hb' c7_o23_2
  clear c7_o23_2 ac7_o23_2
  have c8_o25_0 : w8.cell? ⟨w7.heap.size, 0, none⟩ = some (.int .i64 st1) := keepc hb (by first | (simp; done) | (rw [World.cell?_alloc_past _ _ _ (by simp <;> omega)]; simp; done) | (rw [World.cell?_alloc_past _ _ _ (by simp <;> omega), World.cell?_alloc_past _ _ _ (by simp <;> omega)]; simp; done) | (rw [World.cell?_alloc_past _ _ _ (by simp <;> omega), World.cell?_alloc_past _ _ _ (by simp <;> omega), World.cell?_alloc_past _ _ _ (by simp <;> omega)]; simp; done) | (rw [World.cell?_alloc_at _ _ _ _ (by simp)]; simp; done) | (rw [World.cell?_alloc_past _ _ _ (by simp <;> omega), World.cell?_alloc_at _ _ _ _ (by simp)]; simp; done) | (rw [World.cell?_alloc_past _ _ _ (by simp <;> omega), World.cell?_alloc_past _ _ _ (by simp <;> omega), World.cell?_alloc_at _ _ _ _ (by simp)]; simp; done) | (rw [World.cell?_alloc_past _ _ _ (by simp <;> omega), World.cell?_alloc_past _ _ _ (by simp <;> omega), World.cell?_alloc_past _ _ _ (by simp <;> omega), World.cell?_alloc_at _ _ _ _ (by simp)]; simp; done))
  have hl_c8_o25_0 : w7.heap.size < w8.heap.size := World.block_lt_of_cell? w8 _ c8_o25_0
  have c8_o25_1 : w8.cell? ⟨w7.heap.size, 1, none⟩ = some (.int .i64 at1) := keepc hb (by first | (simp; done) | (rw [World.cell?_alloc_past _ _ _ (by simp <;> omega)]; simp; done) | (rw [World.cell?_alloc_past _ _ _ (by simp <;> omega), World.cell?_alloc_past _ _ _ (by simp <;> omega)]; simp; done) | (rw [World.cell?_alloc_past _ _ _ (by simp <;> omega), World.cell?_alloc_past _ _ _ (by simp <;> omega), World.cell?_alloc_past _ _ _ (by simp <;> omega)]; simp; done) | (rw [World.cell?_alloc_at _ _ _ _ (by simp)]; simp; done) | (rw [World.cell?_alloc_past _ _ _ (by simp <;> omega), World.cell?_alloc_at _ _ _ _ (by simp)]; simp; done) | (rw [World.cell?_alloc_past _ _ _ (by simp <;> omega), World.cell?_alloc_past _ _ _ (by simp <;> omega), World.cell?_alloc_at _ _ _ _ (by simp)]; simp; done) | (rw [World.cell?_alloc_past _ _ _ (by simp <;> omega), World.cell?_alloc_past _ _ _ (by simp <;> omega), World.cell?_alloc_past _ _ _ (by simp <;> omega), World.cell?_alloc_at _ _ _ _ (by simp)]; simp; done))
  have c8_o25_2 : w8.cell? ⟨w7.heap.size, 2, none⟩ = some (.slice (some ⟨g024, 0, none⟩) n1 n1) := keepc hb (by first | (simp; done) | (rw [World.cell?_alloc_past _ _ _ (by simp <;> omega)]; simp; done) | (rw [World.cell?_alloc_past _ _ _ (by simp <;> omega), World.cell?_alloc_past _ _ _ (by simp <;> omega)]; simp; done) | (rw [World.cell?_alloc_past _ _ _ (by simp <;> omega), World.cell?_alloc_past _ _ _ (by simp <;> omega), World.cell?_alloc_past _ _ _ (by simp <;> omega)]; simp; done) | (rw [World.cell?_alloc_at _ _ _ _ (by simp)]; simp; done) | (rw [World.cell?_alloc_past _ _ _ (by simp <;> omega), World.cell?_alloc_at _ _ _ _ (by simp)]; simp; done) | (rw [World.cell?_alloc_past _ _ _ (by simp <;> omega), World.cell?_alloc_past _ _ _ (by simp <;> omega), World.cell?_alloc_at _ _ _ _ (by simp)]; simp; done) | (rw [World.cell?_alloc_past _ _ _ (by simp <;> omega), World.cell?_alloc_past _ _ _ (by simp <;> omega), World.cell?_alloc_past _ _ _ (by simp <;> omega), World.cell?_alloc_at _ _ _ _ (by simp)]; simp; done))
  have ac8_a0_0 := fun o => keepa o c8_a0_0
  have ac8_a0_1 := fun o => keepa o c8_a0_1
  have ac8_a0_2 := fun o => keepa o c8_a0_2
  have ac8_a1_0 := fun o => keepa o c8_a1_0
  have ac8_a1_1 := fun o => keepa o c8_a1_1
  have ac8_a1_2 := fun o => keepa o c8_a1_2
  have ac8_o23_0 := fun o => keepa o c8_o23_0
  have ac8_o23_1 := fun o => keepa o c8_o23_1
  have ac8_o23_2 := fun o => keepa o c8_o23_2
  have ac8_o25_0 := fun o => keepa o c8_o25_0
  have ac8_o25_1 := fun o => keepa o c8_o25_1
  have ac8_o25_2 := fun o => keepa o c8_o25_2
  have rP0 := P0.out.below hb'; clear P0; have P0 := Lib.hid rP0; clear rP0
  have rP1 := P1.out.below hb'; clear P1; have P1 := Lib.hid rP1; clear rP1
  have rFo21 := Fo21.out.below hb'; clear Fo21; have Fo21 := Lib.hid rFo21; clear rFo21
  have rFo23 := Fo23.out.below hb'; clear Fo23; have Fo23 := Lib.hid rFo23; clear rFo23
  have rFo25 := Fo25.out.below hb'; clear Fo25; have Fo25 := Lib.hid rFo25; clear rFo25
  have rB := below_chain B.out (by omega) hb'; clear B; have B := Lib.hid rB; clear rB
  have Fo32 := Lib.hid q30; clear q30
  obtain ⟨ln_o32, bI0_o32, hs0_o32, bm0_o32⟩ := l31
  have hI0_o32 := (fun t ht => Nat.le_trans (bI0_o32 t ht) (by omega) : ∀ t ∈ ps29, t.n ≤ 1000000000); have hm0_o32 := Lib.hid bm0_o32; clear bI0_o32 bm0_o32
  clear hb hb'
  go_wp2_with fail
  refine (eqPartialS_t _ _ _ _ _ _ _ _ _ (by exact (Fo32.out.rd)) (by exact (Fo21.out.rd)) (by omega) hI0_o32 (hm0_o32.out.trans hm0_o21.out.symm)).mono ?_
  rintro e w9 ⟨rfl, hb⟩
  have hb' : Below w8.heap.size w8 w9 := (by first | (with_reducible exact hb) | (with_reducible exact up1 hb) | (with_reducible exact up2 hb) | (with_reducible exact up3 hb) | (with_reducible exact up4 hb) | (with_reducible exact below_of_drew hb) | (with_reducible exact below_of_drew (up1 hb)))
  have z9 := hb'.size
  have c9_a0_0 : w9.cell? ⟨w.heap.size, 0, none⟩ = some (.int .i64 sy0) := keepc hb' c8_a0_0
  clear c8_a0_0 ac8_a0_0
  have c9_a0_1 : w9.cell? ⟨w.heap.size, 1, none⟩ = some (.int .i64 st0) := keepc hb' c8_a0_1
  clear c8_a0_1 ac8_a0_1
  have c9_a0_2 : w9.cell? ⟨w.heap.size, 2, none⟩ = some (.slice A0 n0 c0) := keepc hb' c8_a0_2
  clear c8_a0_2 ac8_a0_2
  have c9_a1_0 : w9.cell? ⟨(w.heap.size + 1), 0, none⟩ = some (.int .i64 st1) := keepc hb' c8_a1_0
  clear c8_a1_0 ac8_a1_0
  have c9_a1_1 : w9.cell? ⟨(w.heap.size + 1), 1, none⟩ = some (.int .i64 at1) := keepc hb' c8_a1_1
  clear c8_a1_1 ac8_a1_1
  have c9_a1_2 : w9.cell? ⟨(w.heap.size + 1), 2, none⟩ = some (.slice A1 n1 c1) := keepc hb' c8_a1_2
  clear c8_a1_2 ac8_a1_2
  have c9_o23_0 : w9.cell? ⟨w6.heap.size, 0, none⟩ = some (.int .i64 sy0) := keepc hb' c8_o23_0
  clear c8_o23_0 ac8_o23_0
  have c9_o23_1 : w9.cell? ⟨w6.heap.size, 1, none⟩ = some (.int .i64 st0) := keepc hb' c8_o23_1
  clear c8_o23_1 ac8_o23_1
  have c9_o23_2 : w9.cell? ⟨w6.heap.size, 2, none⟩ = some (.slice (some ⟨g022, 0, none⟩) n0 n0) := keepc hb' c8_o23_2
  clear c8_o23_2 ac8_o23_2
  have c9_o25_0 : w9.cell? ⟨w7.heap.size, 0, none⟩ = some (.int .i64 st1) := keepc hb' c8_o25_0
  clear c8_o25_0 ac8_o25_0
  have c9_o25_1 : w9.cell? ⟨w7.heap.size, 1, none⟩ = some (.int .i64 at1) := keepc hb' c8_o25_1
  clear c8_o25_1 ac8_o25_1
  have c9_o25_2 : w9.cell? ⟨w7.heap.size, 2, none⟩ = some (.slice (some ⟨g024, 0, none⟩) n1 n1) := keepc hb' c8_o25_2
  clear c8_o25_2 ac8_o25_2
  have ac9_a0_0 := fun o => keepa o c9_a0_0
  have ac9_a0_1 := fun o => keepa o c9_a0_1
  have ac9_a0_2 := fun o => keepa o c9_a0_2
  have ac9_a1_0 := fun o => keepa o c9_a1_0
  have ac9_a1_1 := fun o => keepa o c9_a1_1
  have ac9_a1_2 := fun o => keepa o c9_a1_2
  have ac9_o23_0 := fun o => keepa o c9_o23_0
  have ac9_o23_1 := fun o => keepa o c9_o23_1
  have ac9_o23_2 := fun o => keepa o c9_o23_2
  have ac9_o25_0 := fun o => keepa o c9_o25_0
  have ac9_o25_1 := fun o => keepa o c9_o25_1
  have ac9_o25_2 := fun o => keepa o c9_o25_2
  have rP0 := P0.out.below hb'; clear P0; have P0 := Lib.hid rP0; clear rP0
  have rP1 := P1.out.below hb'; clear P1; have P1 := Lib.hid rP1; clear rP1
  have rFo21 := Fo21.out.below hb'; clear Fo21; have Fo21 := Lib.hid rFo21; clear rFo21
  have rFo23 := Fo23.out.below hb'; clear Fo23; have Fo23 := Lib.hid rFo23; clear rFo23
  have rFo25 := Fo25.out.below hb'; clear Fo25; have Fo25 := Lib.hid rFo25; clear rFo25
  have rFo32 := Fo32.out.below hb'; clear Fo32; have Fo32 := Lib.hid rFo32; clear rFo32
  have rB := below_chain B.out (by omega) hb'; clear B; have B := Lib.hid rB; clear rB
  clear hb hb'
  go_wp2_with fail
  have fx_c9_a0_0 := Ext.cell c9_a0_0
  have fx_c9_a0_1 := Ext.cell c9_a0_1
  have fx_c9_a0_2 := Ext.cell c9_a0_2
  have fx_c9_a1_0 := Ext.cell c9_a1_0
  have fx_c9_a1_1 := Ext.cell c9_a1_1
  have fx_c9_a1_2 := Ext.cell c9_a1_2
  have fx_c9_o23_0 := Ext.cell c9_o23_0
  have fx_c9_o23_1 := Ext.cell c9_o23_1
  have fx_c9_o23_2 := Ext.cell c9_o23_2
  have fx_c9_o25_0 := Ext.cell c9_o25_0
  have fx_c9_o25_1 := Ext.cell c9_o25_1
  have fx_c9_o25_2 := Ext.cell c9_o25_2
  refine Mix.wp_region_mix [3, 3, 1, 1, 0] (fun w' => ∃ x : Ext w9, w' = x.w) (by kernel_rfl) (by kernel_rfl) (InExt.drew _) ?_
  repeat (first | (refine Mix.wpMix_read (by rfl) ?_; go_big_quiet_step (fail); refine wpQuiet_nil ?_) | (refine Mix.wpMix_pure (by rfl) ?_; go_big_quiet_step (fail); refine wpQuiet_nil ?_))
  refine Mix.wpMix_chg (by rfl) (fun K hK => ?_)
  go_wp2_with fail
  refine (toMachine_c _ _ _ _ _ _ _ (by exact (P0.out.rd)) (by omega)).mono ?_
  rintro e w10 ⟨g033, rfl, q10, hb⟩
  have hb' : Below w9.heap.size w9 w10 := (by first | (with_reducible exact hb) | (with_reducible exact up1 hb) | (with_reducible exact up2 hb) | (with_reducible exact up3 hb) | (with_reducible exact up4 hb) | (with_reducible exact below_of_drew hb) | (with_reducible exact below_of_drew (up1 hb)))
  have z10 := hb'.size
  have c10_a0_0 : w10.cell? ⟨w.heap.size, 0, none⟩ = some (.int .i64 sy0) := keepc hb' c9_a0_0
  clear c9_a0_0 ac9_a0_0
  have c10_a0_1 : w10.cell? ⟨w.heap.size, 1, none⟩ = some (.int .i64 st0) := keepc hb' c9_a0_1
  clear c9_a0_1 ac9_a0_1
  have c10_a0_2 : w10.cell? ⟨w.heap.size, 2, none⟩ = some (.slice A0 n0 c0) := keepc hb' c9_a0_2
  clear c9_a0_2 ac9_a0_2
  have c10_a1_0 : w10.cell? ⟨(w.heap.size + 1), 0, none⟩ = some (.int .i64 st1) := keepc hb' c9_a1_0
  clear c9_a1_0 ac9_a1_0
  have c10_a1_1 : w10.cell? ⟨(w.heap.size + 1), 1, none⟩ = some (.int .i64 at1) := keepc hb' c9_a1_1
  clear c9_a1_1 ac9_a1_1
  have c10_a1_2 : w10.cell? ⟨(w.heap.size + 1), 2, none⟩ = some (.slice A1 n1 c1) := keepc hb' c9_a1_2
  clear c9_a1_2 ac9_a1_2
  have c10_o23_0 : w10.cell? ⟨w6.heap.size, 0, none⟩ = some (.int .i64 sy0) := keepc hb' c9_o23_0
  clear c9_o23_0 ac9_o23_0
  have c10_o23_1 : w10.cell? ⟨w6.heap.size, 1, none⟩ = some (.int .i64 st0) := keepc hb' c9_o23_1
  clear c9_o23_1 ac9_o23_1
  have c10_o23_2 : w10.cell? ⟨w6.heap.size, 2, none⟩ = some (.slice (some ⟨g022, 0, none⟩) n0 n0) := keepc hb' c9_o23_2
  clear c9_o23_2 ac9_o23_2
  have c10_o25_0 : w10.cell? ⟨w7.heap.size, 0, none⟩ = some (.int .i64 st1) := keepc hb' c9_o25_0
  clear c9_o25_0 ac9_o25_0
  have c10_o25_1 : w10.cell? ⟨w7.heap.size, 1, none⟩ = some (.int .i64 at1) := keepc hb' c9_o25_1
  clear c9_o25_1 ac9_o25_1
  have c10_o25_2 : w10.cell? ⟨w7.heap.size, 2, none⟩ = some (.slice (some ⟨g024, 0, none⟩) n1 n1) := keepc hb' c9_o25_2
  clear c9_o25_2 ac9_o25_2
  have ac10_a0_0 := fun o => keepa o c10_a0_0
  have ac10_a0_1 := fun o => keepa o c10_a0_1
  have ac10_a0_2 := fun o => keepa o c10_a0_2
  have ac10_a1_0 := fun o => keepa o c10_a1_0
  have ac10_a1_1 := fun o => keepa o c10_a1_1
  have ac10_a1_2 := fun o => keepa o c10_a1_2
  have ac10_o23_0 := fun o => keepa o c10_o23_0
  have ac10_o23_1 := fun o => keepa o c10_o23_1
  have ac10_o23_2 := fun o => keepa o c10_o23_2
  have ac10_o25_0 := fun o => keepa o c10_o25_0
  have ac10_o25_1 := fun o => keepa o c10_o25_1
  have ac10_o25_2 := fun o => keepa o c10_o25_2
  have rP0 := P0.out.below hb'; clear P0; have P0 := Lib.hid rP0; clear rP0
  have rP1 := P1.out.below hb'; clear P1; have P1 := Lib.hid rP1; clear rP1
  have rFo21 := Fo21.out.below hb'; clear Fo21; have Fo21 := Lib.hid rFo21; clear rFo21
  have rFo23 := Fo23.out.below hb'; clear Fo23; have Fo23 := Lib.hid rFo23; clear rFo23
  have rFo25 := Fo25.out.below hb'; clear Fo25; have Fo25 := Lib.hid rFo25; clear rFo25
  have rFo32 := Fo32.out.below hb'; clear Fo32; have Fo32 := Lib.hid rFo32; clear rFo32
  have rB := below_chain B.out (by omega) hb'; clear B; have B := Lib.hid rB; clear rB
  have Fo34 := Lib.hid q10; clear q10
  have em10 : Below w9.heap.size w9 w10 := hb'
  clear hb hb'
  go_wp2_with fail
  refine hK _ _ ⟨⟨_, em10⟩, rfl⟩ ?_
  clear hK K
  refine Mix.wpMix_chg (by rfl) (fun K hK => ?_)
  go_wp2_with fail
  refine (eqMachine_t _ _ _ _ _ _ _ _ _ _ (by exact (Fo23.out.rd)) (by exact (Fo34.out.rd)) (by omega)).mono ?_
  rintro e w11 ⟨rfl, hb⟩
  have hb' : Below w10.heap.size w10 w11 := (by first | (with_reducible exact hb) | (with_reducible exact up1 hb) | (with_reducible exact up2 hb) | (with_reducible exact up3 hb) | (with_reducible exact up4 hb) | (with_reducible exact below_of_drew hb) | (with_reducible exact below_of_drew (up1 hb)))
  have z11 := hb'.size
  have c11_a0_0 : w11.cell? ⟨w.heap.size, 0, none⟩ = some (.int .i64 sy0) := keepc hb' c10_a0_0
  clear c10_a0_0 ac10_a0_0
  have c11_a0_1 : w11.cell? ⟨w.heap.size, 1, none⟩ = some (.int .i64 st0) := keepc hb' c10_a0_1
  clear c10_a0_1 ac10_a0_1
  have c11_a0_2 : w11.cell? ⟨w.heap.size, 2, none⟩ = some (.slice A0 n0 c0) := keepc hb' c10_a0_2
  clear c10_a0_2 ac10_a0_2
  have c11_a1_0 : w11.cell? ⟨(w.heap.size + 1), 0, none⟩ = some (.int .i64 st1) := keepc hb' c10_a1_0
  clear c10_a1_0 ac10_a1_0
  have c11_a1_1 : w11.cell? ⟨(w.heap.size + 1), 1, none⟩ = some (.int .i64 at1) := keepc hb' c10_a1_1
  clear c10_a1_1 ac10_a1_1
  have c11_a1_2 : w11.cell? ⟨(w.heap.size + 1), 2, none⟩ = some (.slice A1 n1 c1) := keepc hb' c10_a1_2
  clear c10_a1_2 ac10_a1_2
  have c11_o23_0 : w11.cell? ⟨w6.heap.size, 0, none⟩ = some (.int .i64 sy0) := keepc hb' c10_o23_0
  clear c10_o23_0 ac10_o23_0
  have c11_o23_1 : w11.cell? ⟨w6.heap.size, 1, none⟩ = some (.int .i64 st0) := keepc hb' c10_o23_1
  clear c10_o23_1 ac10_o23_1
  have c11_o23_2 : w11.cell? ⟨w6.heap.size, 2, none⟩ = some (.slice (some ⟨g022, 0, none⟩) n0 n0) := keepc hb' c10_o23_2
  clear c10_o23_2 ac10_o23_2
  have c11_o25_0 : w11.cell? ⟨w7.heap.size, 0, none⟩ = some (.int .i64 st1) := keepc hb' c10_o25_0
  clear c10_o25_0 ac10_o25_0
  have c11_o25_1 : w11.cell? ⟨w7.heap.size, 1, none⟩ = some (.int .i64 at1) := keepc hb' c10_o25_1
  clear c10_o25_1 ac10_o25_1
  have c11_o25_2 : w11.cell? ⟨w7.heap.size, 2, none⟩ = some (.slice (some ⟨g024, 0, none⟩) n1 n1) := keepc hb' c10_o25_2
  clear c10_o25_2 ac10_o25_2
  have ac11_a0_0 := fun o => keepa o c11_a0_0
  have ac11_a0_1 := fun o => keepa o c11_a0_1
  have ac11_a0_2 := fun o => keepa o c11_a0_2
  have ac11_a1_0 := fun o => keepa o c11_a1_0
  have ac11_a1_1 := fun o => keepa o c11_a1_1
  have ac11_a1_2 := fun o => keepa o c11_a1_2
  have ac11_o23_0 := fun o => keepa o c11_o23_0
  have ac11_o23_1 := fun o => keepa o c11_o23_1
  have ac11_o23_2 := fun o => keepa o c11_o23_2
  have ac11_o25_0 := fun o => keepa o c11_o25_0
  have ac11_o25_1 := fun o => keepa o c11_o25_1
  have ac11_o25_2 := fun o => keepa o c11_o25_2
  have rP0 := P0.out.below hb'; clear P0; have P0 := Lib.hid rP0; clear rP0
  have rP1 := P1.out.below hb'; clear P1; have P1 := Lib.hid rP1; clear rP1
  have rFo21 := Fo21.out.below hb'; clear Fo21; have Fo21 := Lib.hid rFo21; clear rFo21
  have rFo23 := Fo23.out.below hb'; clear Fo23; have Fo23 := Lib.hid rFo23; clear rFo23
  have rFo25 := Fo25.out.below hb'; clear Fo25; have Fo25 := Lib.hid rFo25; clear rFo25
  have rFo32 := Fo32.out.below hb'; clear Fo32; have Fo32 := Lib.hid rFo32; clear rFo32
  have rFo34 := Fo34.out.below hb'; clear Fo34; have Fo34 := Lib.hid rFo34; clear rFo34
  have rB := below_chain B.out (by omega) hb'; clear B; have B := Lib.hid rB; clear rB
  have em11 : Below w9.heap.size w9 w11 := below_chain em10 (by omega) hb'
  clear hb hb'
  go_wp2_with fail
  refine hK _ _ ⟨⟨_, em11⟩, rfl⟩ ?_
  clear hK K
  repeat (first | (refine Mix.wpMix_read (by rfl) ?_; go_big_quiet_step (fail); refine wpQuiet_nil ?_) | (refine Mix.wpMix_pure (by rfl) ?_; go_big_quiet_step (fail); refine wpQuiet_nil ?_))
  (refine Mix.wpMix_nil ?_; try simp only [Exit.then])
  clear fx_c9_a0_0
  clear fx_c9_a0_1
  clear fx_c9_a0_2
  clear fx_c9_a1_0
  clear fx_c9_a1_1
  clear fx_c9_a1_2
  clear fx_c9_o23_0
  clear fx_c9_o23_1
  clear fx_c9_o23_2
  clear fx_c9_o25_0
  clear fx_c9_o25_1
  clear fx_c9_o25_2
  clear Fo34
  go_wp2_with fail
  have fx_c11_a0_0 := Ext.cell c11_a0_0
  have fx_c11_a0_1 := Ext.cell c11_a0_1
  have fx_c11_a0_2 := Ext.cell c11_a0_2
  have fx_c11_a1_0 := Ext.cell c11_a1_0
  have fx_c11_a1_1 := Ext.cell c11_a1_1
  have fx_c11_a1_2 := Ext.cell c11_a1_2
  have fx_c11_o23_0 := Ext.cell c11_o23_0
  have fx_c11_o23_1 := Ext.cell c11_o23_1
  have fx_c11_o23_2 := Ext.cell c11_o23_2
  have fx_c11_o25_0 := Ext.cell c11_o25_0
  have fx_c11_o25_1 := Ext.cell c11_o25_1
  have fx_c11_o25_2 := Ext.cell c11_o25_2
  refine Mix.wp_region_mix [3, 3, 1, 1, 0] (fun w' => ∃ x : Ext w11, w' = x.w) (by kernel_rfl) (by kernel_rfl) (InExt.drew _) ?_
  repeat (first | (refine Mix.wpMix_read (by rfl) ?_; go_big_quiet_step (fail); refine wpQuiet_nil ?_) | (refine Mix.wpMix_pure (by rfl) ?_; go_big_quiet_step (fail); refine wpQuiet_nil ?_))
  refine Mix.wpMix_chg (by rfl) (fun K hK => ?_)
  go_wp2_with fail
  refine (toPartial_c _ _ _ _ _ _ _ (by exact (P1.out.rd)) (by omega)).mono ?_
  rintro e w12 ⟨g035, rfl, q12, hb⟩
  have hb' : Below w11.heap.size w11 w12 := (by first | (with_reducible exact hb) | (with_reducible exact up1 hb) | (with_reducible exact up2 hb) | (with_reducible exact up3 hb) | (with_reducible exact up4 hb) | (with_reducible exact below_of_drew hb) | (with_reducible exact below_of_drew (up1 hb)))
  have z12 := hb'.size
  have c12_a0_0 : w12.cell? ⟨w.heap.size, 0, none⟩ = some (.int .i64 sy0) := keepc hb' c11_a0_0
  clear c11_a0_0 ac11_a0_0
  have c12_a0_1 : w12.cell? ⟨w.heap.size, 1, none⟩ = some (.int .i64 st0) := keepc hb' c11_a0_1
  clear c11_a0_1 ac11_a0_1
  have c12_a0_2 : w12.cell? ⟨w.heap.size, 2, none⟩ = some (.slice A0 n0 c0) := keepc hb' c11_a0_2
  clear c11_a0_2 ac11_a0_2
  have c12_a1_0 : w12.cell? ⟨(w.heap.size + 1), 0, none⟩ = some (.int .i64 st1) := keepc hb' c11_a1_0
  clear c11_a1_0 ac11_a1_0
  have c12_a1_1 : w12.cell? ⟨(w.heap.size + 1), 1, none⟩ = some (.int .i64 at1) := keepc hb' c11_a1_1
  clear c11_a1_1 ac11_a1_1
  have c12_a1_2 : w12.cell? ⟨(w.heap.size + 1), 2, none⟩ = some (.slice A1 n1 c1) := keepc hb' c11_a1_2
  clear c11_a1_2 ac11_a1_2
  have c12_o23_0 : w12.cell? ⟨w6.heap.size, 0, none⟩ = some (.int .i64 sy0) := keepc hb' c11_o23_0
  clear c11_o23_0 ac11_o23_0
  have c12_o23_1 : w12.cell? ⟨w6.heap.size, 1, none⟩ = some (.int .i64 st0) := keepc hb' c11_o23_1
  clear c11_o23_1 ac11_o23_1
  have c12_o23_2 : w12.cell? ⟨w6.heap.size, 2, none⟩ = some (.slice (some ⟨g022, 0, none⟩) n0 n0) := keepc hb' c11_o23_2
  clear c11_o23_2 ac11_o23_2
  have c12_o25_0 : w12.cell? ⟨w7.heap.size, 0, none⟩ = some (.int .i64 st1) := keepc hb' c11_o25_0
  clear c11_o25_0 ac11_o25_0
  have c12_o25_1 : w12.cell? ⟨w7.heap.size, 1, none⟩ = some (.int .i64 at1) := keepc hb' c11_o25_1
  clear c11_o25_1 ac11_o25_1
  have c12_o25_2 : w12.cell? ⟨w7.heap.size, 2, none⟩ = some (.slice (some ⟨g024, 0, none⟩) n1 n1) := keepc hb' c11_o25_2
  clear c11_o25_2 ac11_o25_2
  have ac12_a0_0 := fun o => keepa o c12_a0_0
  have ac12_a0_1 := fun o => keepa o c12_a0_1
  have ac12_a0_2 := fun o => keepa o c12_a0_2
  have ac12_a1_0 := fun o => keepa o c12_a1_0
  have ac12_a1_1 := fun o => keepa o c12_a1_1
  have ac12_a1_2 := fun o => keepa o c12_a1_2
  have ac12_o23_0 := fun o => keepa o c12_o23_0
  have ac12_o23_1 := fun o => keepa o c12_o23_1
  have ac12_o23_2 := fun o => keepa o c12_o23_2
  have ac12_o25_0 := fun o => keepa o c12_o25_0
  have ac12_o25_1 := fun o => keepa o c12_o25_1
  have ac12_o25_2 := fun o => keepa o c12_o25_2
  have rP0 := P0.out.below hb'; clear P0; have P0 := Lib.hid rP0; clear rP0
  have rP1 := P1.out.below hb'; clear P1; have P1 := Lib.hid rP1; clear rP1
  have rFo21 := Fo21.out.below hb'; clear Fo21; have Fo21 := Lib.hid rFo21; clear rFo21
  have rFo23 := Fo23.out.below hb'; clear Fo23; have Fo23 := Lib.hid rFo23; clear rFo23
  have rFo25 := Fo25.out.below hb'; clear Fo25; have Fo25 := Lib.hid rFo25; clear rFo25
  have rFo32 := Fo32.out.below hb'; clear Fo32; have Fo32 := Lib.hid rFo32; clear rFo32
  have rB := below_chain B.out (by omega) hb'; clear B; have B := Lib.hid rB; clear rB
  have Fo36 := Lib.hid q12; clear q12
  have em12 : Below w11.heap.size w11 w12 := hb'
  clear hb hb'
  go_wp2_with fail
  refine hK _ _ ⟨⟨_, em12⟩, rfl⟩ ?_
  clear hK K
  refine Mix.wpMix_chg (by rfl) (fun K hK => ?_)
  go_wp2_with fail
  refine (eqPartial_t _ _ _ _ _ _ _ _ _ _ (by exact (Fo25.out.rd)) (by exact (Fo36.out.rd)) (by omega)).mono ?_
  rintro e w13 ⟨rfl, hb⟩
  have hb' : Below w12.heap.size w12 w13 := (by first | (with_reducible exact hb) | (with_reducible exact up1 hb) | (with_reducible exact up2 hb) | (with_reducible exact up3 hb) | (with_reducible exact up4 hb) | (with_reducible exact below_of_drew hb) | (with_reducible exact below_of_drew (up1 hb)))
  have z13 := hb'.size
  have c13_a0_0 : w13.cell? ⟨w.heap.size, 0, none⟩ = some (.int .i64 sy0) := keepc hb' c12_a0_0
  clear c12_a0_0 ac12_a0_0
  have c13_a0_1 : w13.cell? ⟨w.heap.size, 1, none⟩ = some (.int .i64 st0) := keepc hb' c12_a0_1
  clear c12_a0_1 ac12_a0_1
  have c13_a0_2 : w13.cell? ⟨w.heap.size, 2, none⟩ = some (.slice A0 n0 c0) := keepc hb' c12_a0_2
  clear c12_a0_2 ac12_a0_2
  have c13_a1_0 : w13.cell? ⟨(w.heap.size + 1), 0, none⟩ = some (.int .i64 st1) := keepc hb' c12_a1_0
  clear c12_a1_0 ac12_a1_0
  have c13_a1_1 : w13.cell? ⟨(w.heap.size + 1), 1, none⟩ = some (.int .i64 at1) := keepc hb' c12_a1_1
  clear c12_a1_1 ac12_a1_1
  have c13_a1_2 : w13.cell? ⟨(w.heap.size + 1), 2, none⟩ = some (.slice A1 n1 c1) := keepc hb' c12_a1_2
  clear c12_a1_2 ac12_a1_2
  have c13_o23_0 : w13.cell? ⟨w6.heap.size, 0, none⟩ = some (.int .i64 sy0) := keepc hb' c12_o23_0
  clear c12_o23_0 ac12_o23_0
  have c13_o23_1 : w13.cell? ⟨w6.heap.size, 1, none⟩ = some (.int .i64 st0) := keepc hb' c12_o23_1
  clear c12_o23_1 ac12_o23_1
  have c13_o23_2 : w13.cell? ⟨w6.heap.size, 2, none⟩ = some (.slice (some ⟨g022, 0, none⟩) n0 n0) := keepc hb' c12_o23_2
  clear c12_o23_2 ac12_o23_2
  have c13_o25_0 : w13.cell? ⟨w7.heap.size, 0, none⟩ = some (.int .i64 st1) := keepc hb' c12_o25_0
  clear c12_o25_0 ac12_o25_0
  have c13_o25_1 : w13.cell? ⟨w7.heap.size, 1, none⟩ = some (.int .i64 at1) := keepc hb' c12_o25_1
  clear c12_o25_1 ac12_o25_1
  have c13_o25_2 : w13.cell? ⟨w7.heap.size, 2, none⟩ = some (.slice (some ⟨g024, 0, none⟩) n1 n1) := keepc hb' c12_o25_2
  clear c12_o25_2 ac12_o25_2
  have ac13_a0_0 := fun o => keepa o c13_a0_0
  have ac13_a0_1 := fun o => keepa o c13_a0_1
  have ac13_a0_2 := fun o => keepa o c13_a0_2
  have ac13_a1_0 := fun o => keepa o c13_a1_0
  have ac13_a1_1 := fun o => keepa o c13_a1_1
  have ac13_a1_2 := fun o => keepa o c13_a1_2
  have ac13_o23_0 := fun o => keepa o c13_o23_0
  have ac13_o23_1 := fun o => keepa o c13_o23_1
  have ac13_o23_2 := fun o => keepa o c13_o23_2
  have ac13_o25_0 := fun o => keepa o c13_o25_0
  have ac13_o25_1 := fun o => keepa o c13_o25_1
  have ac13_o25_2 := fun o => keepa o c13_o25_2
  have rP0 := P0.out.below hb'; clear P0; have P0 := Lib.hid rP0; clear rP0
  have rP1 := P1.out.below hb'; clear P1; have P1 := Lib.hid rP1; clear rP1
  have rFo21 := Fo21.out.below hb'; clear Fo21; have Fo21 := Lib.hid rFo21; clear rFo21
  have rFo23 := Fo23.out.below hb'; clear Fo23; have Fo23 := Lib.hid rFo23; clear rFo23
  have rFo25 := Fo25.out.below hb'; clear Fo25; have Fo25 := Lib.hid rFo25; clear rFo25
  have rFo32 := Fo32.out.below hb'; clear Fo32; have Fo32 := Lib.hid rFo32; clear rFo32
  have rFo36 := Fo36.out.below hb'; clear Fo36; have Fo36 := Lib.hid rFo36; clear rFo36
  have rB := below_chain B.out (by omega) hb'; clear B; have B := Lib.hid rB; clear rB
  have em13 : Below w11.heap.size w11 w13 := below_chain em12 (by omega) hb'
  clear hb hb'
  go_wp2_with fail
  refine hK _ _ ⟨⟨_, em13⟩, rfl⟩ ?_
  clear hK K
  repeat (first | (refine Mix.wpMix_read (by rfl) ?_; go_big_quiet_step (fail); refine wpQuiet_nil ?_) | (refine Mix.wpMix_pure (by rfl) ?_; go_big_quiet_step (fail); refine wpQuiet_nil ?_))
  (refine Mix.wpMix_nil ?_; try simp only [Exit.then])
  clear fx_c11_a0_0
  clear fx_c11_a0_1
  clear fx_c11_a0_2
  clear fx_c11_a1_0
  clear fx_c11_a1_1
  clear fx_c11_a1_2
  clear fx_c11_o23_0
  clear fx_c11_o23_1
  clear fx_c11_o23_2
  clear fx_c11_o25_0
  clear fx_c11_o25_1
  clear fx_c11_o25_2
  clear Fo36
  go_wp2_with fail
  refine (markMachine_c _ _ _ _ _ _ _ _ _ _ (by exact (Fo23.out)) (by omega) (by omega) (by omega)).mono ?_
  rintro e w14 ⟨rfl, q14, hk⟩
  have hk' : KeepR w5.heap.size w6.heap.size w13 w14 := (by first | (with_reducible exact hk) | (with_reducible exact hk.up1) | (with_reducible exact hk.up1.up1))
  have z14 := hk'.size
  have c14_a0_0 : w14.cell? ⟨w.heap.size, 0, none⟩ = some (.int .i64 sy0) := hk'.cell (by simp <;> omega) c13_a0_0
  clear c13_a0_0 ac13_a0_0
  have c14_a0_1 : w14.cell? ⟨w.heap.size, 1, none⟩ = some (.int .i64 st0) := hk'.cell (by simp <;> omega) c13_a0_1
  clear c13_a0_1 ac13_a0_1
  have c14_a0_2 : w14.cell? ⟨w.heap.size, 2, none⟩ = some (.slice A0 n0 c0) := hk'.cell (by simp <;> omega) c13_a0_2
  clear c13_a0_2 ac13_a0_2
  have c14_a1_0 : w14.cell? ⟨(w.heap.size + 1), 0, none⟩ = some (.int .i64 st1) := hk'.cell (by simp <;> omega) c13_a1_0
  clear c13_a1_0 ac13_a1_0
  have c14_a1_1 : w14.cell? ⟨(w.heap.size + 1), 1, none⟩ = some (.int .i64 at1) := hk'.cell (by simp <;> omega) c13_a1_1
  clear c13_a1_1 ac13_a1_1
  have c14_a1_2 : w14.cell? ⟨(w.heap.size + 1), 2, none⟩ = some (.slice A1 n1 c1) := hk'.cell (by simp <;> omega) c13_a1_2
  clear c13_a1_2 ac13_a1_2
  have c14_o23_0 : w14.cell? ⟨w6.heap.size, 0, none⟩ = some (.int .i64 sy0) := hk'.cell (by simp <;> omega) c13_o23_0
  clear c13_o23_0 ac13_o23_0
  have c14_o23_1 : w14.cell? ⟨w6.heap.size, 1, none⟩ = some (.int .i64 st0) := hk'.cell (by simp <;> omega) c13_o23_1
  clear c13_o23_1 ac13_o23_1
  have c14_o23_2 : w14.cell? ⟨w6.heap.size, 2, none⟩ = some (.slice (some ⟨g022, 0, none⟩) n0 n0) := hk'.cell (by simp <;> omega) c13_o23_2
  clear c13_o23_2 ac13_o23_2
  have c14_o25_0 : w14.cell? ⟨w7.heap.size, 0, none⟩ = some (.int .i64 st1) := hk'.cell (by simp <;> omega) c13_o25_0
  clear c13_o25_0 ac13_o25_0
  have c14_o25_1 : w14.cell? ⟨w7.heap.size, 1, none⟩ = some (.int .i64 at1) := hk'.cell (by simp <;> omega) c13_o25_1
  clear c13_o25_1 ac13_o25_1
  have c14_o25_2 : w14.cell? ⟨w7.heap.size, 2, none⟩ = some (.slice (some ⟨g024, 0, none⟩) n1 n1) := hk'.cell (by simp <;> omega) c13_o25_2
  clear c13_o25_2 ac13_o25_2
  have ac14_a0_0 := fun o => keepa o c14_a0_0
  have ac14_a0_1 := fun o => keepa o c14_a0_1
  have ac14_a0_2 := fun o => keepa o c14_a0_2
  have ac14_a1_0 := fun o => keepa o c14_a1_0
  have ac14_a1_1 := fun o => keepa o c14_a1_1
  have ac14_a1_2 := fun o => keepa o c14_a1_2
  have ac14_o23_0 := fun o => keepa o c14_o23_0
  have ac14_o23_1 := fun o => keepa o c14_o23_1
  have ac14_o23_2 := fun o => keepa o c14_o23_2
  have ac14_o25_0 := fun o => keepa o c14_o25_0
  have ac14_o25_1 := fun o => keepa o c14_o25_1
  have ac14_o25_2 := fun o => keepa o c14_o25_2
  have rP0 := P0.out.keep hk' (by omega); clear P0; have P0 := Lib.hid rP0; clear rP0
  have rP1 := P1.out.keep hk' (by omega); clear P1; have P1 := Lib.hid rP1; clear rP1
  have rFo21 := Fo21.out.keep hk' (by omega); clear Fo21; have Fo21 := Lib.hid rFo21; clear rFo21
  have rFo23 := q14; clear Fo23; have Fo23 := Lib.hid rFo23; clear rFo23 q14
  have rFo25 := Fo25.out.keep hk' (by omega); clear Fo25; have Fo25 := Lib.hid rFo25; clear rFo25
  have rFo32 := Fo32.out.keep hk' (by omega); clear Fo32; have Fo32 := Lib.hid rFo32; clear rFo32
  have rB := B.out.trans (hk'.below (B := w.heap.size) (by omega) (by omega)); clear B; have B := Lib.hid rB; clear rB
  clear hk hk'
  go_wp2_with fail
  refine (markPartial_c _ _ _ _ _ _ _ _ _ _ (by exact (Fo25.out)) (by omega) (by omega) (by omega)).mono ?_
  rintro e w15 ⟨rfl, q15, hk⟩
  have hk' : KeepR (w6.heap.size + 1) w7.heap.size w14 w15 := (by first | (with_reducible exact hk) | (with_reducible exact hk.up1) | (with_reducible exact hk.up1.up1))
  have z15 := hk'.size
  have c15_a0_0 : w15.cell? ⟨w.heap.size, 0, none⟩ = some (.int .i64 sy0) := hk'.cell (by simp <;> omega) c14_a0_0
  clear c14_a0_0 ac14_a0_0
  have c15_a0_1 : w15.cell? ⟨w.heap.size, 1, none⟩ = some (.int .i64 st0) := hk'.cell (by simp <;> omega) c14_a0_1
  clear c14_a0_1 ac14_a0_1
  have c15_a0_2 : w15.cell? ⟨w.heap.size, 2, none⟩ = some (.slice A0 n0 c0) := hk'.cell (by simp <;> omega) c14_a0_2
  clear c14_a0_2 ac14_a0_2
  have c15_a1_0 : w15.cell? ⟨(w.heap.size + 1), 0, none⟩ = some (.int .i64 st1) := hk'.cell (by simp <;> omega) c14_a1_0
  clear c14_a1_0 ac14_a1_0
  have c15_a1_1 : w15.cell? ⟨(w.heap.size + 1), 1, none⟩ = some (.int .i64 at1) := hk'.cell (by simp <;> omega) c14_a1_1
  clear c14_a1_1 ac14_a1_1
  have c15_a1_2 : w15.cell? ⟨(w.heap.size + 1), 2, none⟩ = some (.slice A1 n1 c1) := hk'.cell (by simp <;> omega) c14_a1_2
  clear c14_a1_2 ac14_a1_2
  have c15_o23_0 : w15.cell? ⟨w6.heap.size, 0, none⟩ = some (.int .i64 sy0) := hk'.cell (by simp <;> omega) c14_o23_0
  clear c14_o23_0 ac14_o23_0
  have c15_o23_1 : w15.cell? ⟨w6.heap.size, 1, none⟩ = some (.int .i64 st0) := hk'.cell (by simp <;> omega) c14_o23_1
  clear c14_o23_1 ac14_o23_1
  have c15_o23_2 : w15.cell? ⟨w6.heap.size, 2, none⟩ = some (.slice (some ⟨g022, 0, none⟩) n0 n0) := hk'.cell (by simp <;> omega) c14_o23_2
  clear c14_o23_2 ac14_o23_2
  have c15_o25_0 : w15.cell? ⟨w7.heap.size, 0, none⟩ = some (.int .i64 st1) := hk'.cell (by simp <;> omega) c14_o25_0
  clear c14_o25_0 ac14_o25_0
  have c15_o25_1 : w15.cell? ⟨w7.heap.size, 1, none⟩ = some (.int .i64 at1) := hk'.cell (by simp <;> omega) c14_o25_1
  clear c14_o25_1 ac14_o25_1
  have c15_o25_2 : w15.cell? ⟨w7.heap.size, 2, none⟩ = some (.slice (some ⟨g024, 0, none⟩) n1 n1) := hk'.cell (by simp <;> omega) c14_o25_2
  clear c14_o25_2 ac14_o25_2
  have ac15_a0_0 := fun o => keepa o c15_a0_0
  have ac15_a0_1 := fun o => keepa o c15_a0_1
  have ac15_a0_2 := fun o => keepa o c15_a0_2
  have ac15_a1_0 := fun o => keepa o c15_a1_0
  have ac15_a1_1 := fun o => keepa o c15_a1_1
  have ac15_a1_2 := fun o => keepa o c15_a1_2
  have ac15_o23_0 := fun o => keepa o c15_o23_0
  have ac15_o23_1 := fun o => keepa o c15_o23_1
  have ac15_o23_2 := fun o => keepa o c15_o23_2
  have ac15_o25_0 := fun o => keepa o c15_o25_0
  have ac15_o25_1 := fun o => keepa o c15_o25_1
  have ac15_o25_2 := fun o => keepa o c15_o25_2
  have rP0 := P0.out.keep hk' (by omega); clear P0; have P0 := Lib.hid rP0; clear rP0
  have rP1 := P1.out.keep hk' (by omega); clear P1; have P1 := Lib.hid rP1; clear rP1
  have rFo21 := Fo21.out.keep hk' (by omega); clear Fo21; have Fo21 := Lib.hid rFo21; clear rFo21
  have rFo23 := Fo23.out.keep hk' (by omega); clear Fo23; have Fo23 := Lib.hid rFo23; clear rFo23
  have rFo25 := q15; clear Fo25; have Fo25 := Lib.hid rFo25; clear rFo25 q15
  have rFo32 := Fo32.out.keep hk' (by omega); clear Fo32; have Fo32 := Lib.hid rFo32; clear rFo32
  have rB := B.out.trans (hk'.below (B := w.heap.size) (by omega) (by omega)); clear B; have B := Lib.hid rB; clear rB
  clear hk hk'
  go_wp2_with fail
  refine (eqPartialS_t _ _ _ _ _ _ _ _ _ (by exact (Fo32.out.rd)) (by exact (Fo21.out.rd)) (by omega) hI0_o32 (hm0_o32.out.trans hm0_o21.out.symm)).mono ?_
  rintro e w16 ⟨rfl, hb⟩
  have hb' : Below w15.heap.size w15 w16 := (by first | (with_reducible exact hb) | (with_reducible exact up1 hb) | (with_reducible exact up2 hb) | (with_reducible exact up3 hb) | (with_reducible exact up4 hb) | (with_reducible exact below_of_drew hb) | (with_reducible exact below_of_drew (up1 hb)))
  have z16 := hb'.size
  have c16_a0_0 : w16.cell? ⟨w.heap.size, 0, none⟩ = some (.int .i64 sy0) := keepc hb' c15_a0_0
  clear c15_a0_0 ac15_a0_0
  have c16_a0_1 : w16.cell? ⟨w.heap.size, 1, none⟩ = some (.int .i64 st0) := keepc hb' c15_a0_1
  clear c15_a0_1 ac15_a0_1
  have c16_a0_2 : w16.cell? ⟨w.heap.size, 2, none⟩ = some (.slice A0 n0 c0) := keepc hb' c15_a0_2
  clear c15_a0_2 ac15_a0_2
  have c16_a1_0 : w16.cell? ⟨(w.heap.size + 1), 0, none⟩ = some (.int .i64 st1) := keepc hb' c15_a1_0
  clear c15_a1_0 ac15_a1_0
  have c16_a1_1 : w16.cell? ⟨(w.heap.size + 1), 1, none⟩ = some (.int .i64 at1) := keepc hb' c15_a1_1
  clear c15_a1_1 ac15_a1_1
  have c16_a1_2 : w16.cell? ⟨(w.heap.size + 1), 2, none⟩ = some (.slice A1 n1 c1) := keepc hb' c15_a1_2
  clear c15_a1_2 ac15_a1_2
  have c16_o23_0 : w16.cell? ⟨w6.heap.size, 0, none⟩ = some (.int .i64 sy0) := keepc hb' c15_o23_0
  clear c15_o23_0 ac15_o23_0
  have c16_o23_1 : w16.cell? ⟨w6.heap.size, 1, none⟩ = some (.int .i64 st0) := keepc hb' c15_o23_1
  clear c15_o23_1 ac15_o23_1
  have c16_o23_2 : w16.cell? ⟨w6.heap.size, 2, none⟩ = some (.slice (some ⟨g022, 0, none⟩) n0 n0) := keepc hb' c15_o23_2
  clear c15_o23_2 ac15_o23_2
  have c16_o25_0 : w16.cell? ⟨w7.heap.size, 0, none⟩ = some (.int .i64 st1) := keepc hb' c15_o25_0
  clear c15_o25_0 ac15_o25_0
  have c16_o25_1 : w16.cell? ⟨w7.heap.size, 1, none⟩ = some (.int .i64 at1) := keepc hb' c15_o25_1
  clear c15_o25_1 ac15_o25_1
  have c16_o25_2 : w16.cell? ⟨w7.heap.size, 2, none⟩ = some (.slice (some ⟨g024, 0, none⟩) n1 n1) := keepc hb' c15_o25_2
  clear c15_o25_2 ac15_o25_2
  have ac16_a0_0 := fun o => keepa o c16_a0_0
  have ac16_a0_1 := fun o => keepa o c16_a0_1
  have ac16_a0_2 := fun o => keepa o c16_a0_2
  have ac16_a1_0 := fun o => keepa o c16_a1_0
  have ac16_a1_1 := fun o => keepa o c16_a1_1
  have ac16_a1_2 := fun o => keepa o c16_a1_2
  have ac16_o23_0 := fun o => keepa o c16_o23_0
  have ac16_o23_1 := fun o => keepa o c16_o23_1
  have ac16_o23_2 := fun o => keepa o c16_o23_2
  have ac16_o25_0 := fun o => keepa o c16_o25_0
  have ac16_o25_1 := fun o => keepa o c16_o25_1
  have ac16_o25_2 := fun o => keepa o c16_o25_2
  have rP0 := P0.out.below hb'; clear P0; have P0 := Lib.hid rP0; clear rP0
  have rP1 := P1.out.below hb'; clear P1; have P1 := Lib.hid rP1; clear rP1
  have rFo21 := Fo21.out.below hb'; clear Fo21; have Fo21 := Lib.hid rFo21; clear rFo21
  have rFo23 := Fo23.out.below hb'; clear Fo23; have Fo23 := Lib.hid rFo23; clear rFo23
  have rFo25 := Fo25.out.below hb'; clear Fo25; have Fo25 := Lib.hid rFo25; clear rFo25
  have rFo32 := Fo32.out.below hb'; clear Fo32; have Fo32 := Lib.hid rFo32; clear rFo32
  have rB := below_chain B.out (by omega) hb'; clear B; have B := Lib.hid rB; clear rB
  clear hb hb'
  go_wp2_with fail
  refine (markPartialS_c _ _ _ _ _ _ _ _ (by exact (Fo32.out)) (by omega) hI0_o32 (by omega) (by omega) (by omega)).mono ?_
  rintro e w17 ⟨rfl, q17, hk⟩
  have hk' : KeepR (w7.heap.size + 1) w8.heap.size w16 w17 := (by first | (with_reducible exact hk) | (with_reducible exact hk.up1) | (with_reducible exact hk.up1.up1))
  have z17 := hk'.size
  have c17_a0_0 : w17.cell? ⟨w.heap.size, 0, none⟩ = some (.int .i64 sy0) := hk'.cell (by simp <;> omega) c16_a0_0
  clear c16_a0_0 ac16_a0_0
  have c17_a0_1 : w17.cell? ⟨w.heap.size, 1, none⟩ = some (.int .i64 st0) := hk'.cell (by simp <;> omega) c16_a0_1
  clear c16_a0_1 ac16_a0_1
  have c17_a0_2 : w17.cell? ⟨w.heap.size, 2, none⟩ = some (.slice A0 n0 c0) := hk'.cell (by simp <;> omega) c16_a0_2
  clear c16_a0_2 ac16_a0_2
  have c17_a1_0 : w17.cell? ⟨(w.heap.size + 1), 0, none⟩ = some (.int .i64 st1) := hk'.cell (by simp <;> omega) c16_a1_0
  clear c16_a1_0 ac16_a1_0
  have c17_a1_1 : w17.cell? ⟨(w.heap.size + 1), 1, none⟩ = some (.int .i64 at1) := hk'.cell (by simp <;> omega) c16_a1_1
  clear c16_a1_1 ac16_a1_1
  have c17_a1_2 : w17.cell? ⟨(w.heap.size + 1), 2, none⟩ = some (.slice A1 n1 c1) := hk'.cell (by simp <;> omega) c16_a1_2
  clear c16_a1_2 ac16_a1_2
  have c17_o23_0 : w17.cell? ⟨w6.heap.size, 0, none⟩ = some (.int .i64 sy0) := hk'.cell (by simp <;> omega) c16_o23_0
  clear c16_o23_0 ac16_o23_0
  have c17_o23_1 : w17.cell? ⟨w6.heap.size, 1, none⟩ = some (.int .i64 st0) := hk'.cell (by simp <;> omega) c16_o23_1
  clear c16_o23_1 ac16_o23_1
  have c17_o23_2 : w17.cell? ⟨w6.heap.size, 2, none⟩ = some (.slice (some ⟨g022, 0, none⟩) n0 n0) := hk'.cell (by simp <;> omega) c16_o23_2
  clear c16_o23_2 ac16_o23_2
  have c17_o25_0 : w17.cell? ⟨w7.heap.size, 0, none⟩ = some (.int .i64 st1) := hk'.cell (by simp <;> omega) c16_o25_0
  clear c16_o25_0 ac16_o25_0
  have c17_o25_1 : w17.cell? ⟨w7.heap.size, 1, none⟩ = some (.int .i64 at1) := hk'.cell (by simp <;> omega) c16_o25_1
  clear c16_o25_1 ac16_o25_1
  have c17_o25_2 : w17.cell? ⟨w7.heap.size, 2, none⟩ = some (.slice (some ⟨g024, 0, none⟩) n1 n1) := hk'.cell (by simp <;> omega) c16_o25_2
  clear c16_o25_2 ac16_o25_2
  have ac17_a0_0 := fun o => keepa o c17_a0_0
  have ac17_a0_1 := fun o => keepa o c17_a0_1
  have ac17_a0_2 := fun o => keepa o c17_a0_2
  have ac17_a1_0 := fun o => keepa o c17_a1_0
  have ac17_a1_1 := fun o => keepa o c17_a1_1
  have ac17_a1_2 := fun o => keepa o c17_a1_2
  have ac17_o23_0 := fun o => keepa o c17_o23_0
  have ac17_o23_1 := fun o => keepa o c17_o23_1
  have ac17_o23_2 := fun o => keepa o c17_o23_2
  have ac17_o25_0 := fun o => keepa o c17_o25_0
  have ac17_o25_1 := fun o => keepa o c17_o25_1
  have ac17_o25_2 := fun o => keepa o c17_o25_2
  have rP0 := P0.out.keep hk' (by omega); clear P0; have P0 := Lib.hid rP0; clear rP0
  have rP1 := P1.out.keep hk' (by omega); clear P1; have P1 := Lib.hid rP1; clear rP1
  have rFo21 := Fo21.out.keep hk' (by omega); clear Fo21; have Fo21 := Lib.hid rFo21; clear rFo21
  have rFo23 := Fo23.out.keep hk' (by omega); clear Fo23; have Fo23 := Lib.hid rFo23; clear rFo23
  have rFo25 := Fo25.out.keep hk' (by omega); clear Fo25; have Fo25 := Lib.hid rFo25; clear rFo25
  have rFo32 := q17; clear Fo32; have Fo32 := Lib.hid rFo32; clear rFo32 q17
  have rB := B.out.trans (hk'.below (B := w.heap.size) (by omega) (by omega)); clear B; have B := Lib.hid rB; clear rB
  clear hk hk'
  go_wp2_with fail
  refine (heldPartialS_c _ _ _ _ _ _ (by exact (Fo32.out.rd)) (by omega) hI0_o32 (by omega) (by omega) (by omega)).mono ?_
  rintro e w18 ⟨rfl, hb⟩
  have hb' : Below w17.heap.size w17 w18 := (by first | (with_reducible exact hb) | (with_reducible exact up1 hb) | (with_reducible exact up2 hb) | (with_reducible exact up3 hb) | (with_reducible exact up4 hb) | (with_reducible exact below_of_drew hb) | (with_reducible exact below_of_drew (up1 hb)))
  have z18 := hb'.size
  have c18_a0_0 : w18.cell? ⟨w.heap.size, 0, none⟩ = some (.int .i64 sy0) := keepc hb' c17_a0_0
  clear c17_a0_0 ac17_a0_0
  have c18_a0_1 : w18.cell? ⟨w.heap.size, 1, none⟩ = some (.int .i64 st0) := keepc hb' c17_a0_1
  clear c17_a0_1 ac17_a0_1
  have c18_a0_2 : w18.cell? ⟨w.heap.size, 2, none⟩ = some (.slice A0 n0 c0) := keepc hb' c17_a0_2
  clear c17_a0_2 ac17_a0_2
  have c18_a1_0 : w18.cell? ⟨(w.heap.size + 1), 0, none⟩ = some (.int .i64 st1) := keepc hb' c17_a1_0
  clear c17_a1_0 ac17_a1_0
  have c18_a1_1 : w18.cell? ⟨(w.heap.size + 1), 1, none⟩ = some (.int .i64 at1) := keepc hb' c17_a1_1
  clear c17_a1_1 ac17_a1_1
  have c18_a1_2 : w18.cell? ⟨(w.heap.size + 1), 2, none⟩ = some (.slice A1 n1 c1) := keepc hb' c17_a1_2
  clear c17_a1_2 ac17_a1_2
  have c18_o23_0 : w18.cell? ⟨w6.heap.size, 0, none⟩ = some (.int .i64 sy0) := keepc hb' c17_o23_0
  clear c17_o23_0 ac17_o23_0
  have c18_o23_1 : w18.cell? ⟨w6.heap.size, 1, none⟩ = some (.int .i64 st0) := keepc hb' c17_o23_1
  clear c17_o23_1 ac17_o23_1
  have c18_o23_2 : w18.cell? ⟨w6.heap.size, 2, none⟩ = some (.slice (some ⟨g022, 0, none⟩) n0 n0) := keepc hb' c17_o23_2
  clear c17_o23_2 ac17_o23_2
  have c18_o25_0 : w18.cell? ⟨w7.heap.size, 0, none⟩ = some (.int .i64 st1) := keepc hb' c17_o25_0
  clear c17_o25_0 ac17_o25_0
  have c18_o25_1 : w18.cell? ⟨w7.heap.size, 1, none⟩ = some (.int .i64 at1) := keepc hb' c17_o25_1
  clear c17_o25_1 ac17_o25_1
  have c18_o25_2 : w18.cell? ⟨w7.heap.size, 2, none⟩ = some (.slice (some ⟨g024, 0, none⟩) n1 n1) := keepc hb' c17_o25_2
  clear c17_o25_2 ac17_o25_2
  have ac18_a0_0 := fun o => keepa o c18_a0_0
  have ac18_a0_1 := fun o => keepa o c18_a0_1
  have ac18_a0_2 := fun o => keepa o c18_a0_2
  have ac18_a1_0 := fun o => keepa o c18_a1_0
  have ac18_a1_1 := fun o => keepa o c18_a1_1
  have ac18_a1_2 := fun o => keepa o c18_a1_2
  have ac18_o23_0 := fun o => keepa o c18_o23_0
  have ac18_o23_1 := fun o => keepa o c18_o23_1
  have ac18_o23_2 := fun o => keepa o c18_o23_2
  have ac18_o25_0 := fun o => keepa o c18_o25_0
  have ac18_o25_1 := fun o => keepa o c18_o25_1
  have ac18_o25_2 := fun o => keepa o c18_o25_2
  have rP0 := P0.out.below hb'; clear P0; have P0 := Lib.hid rP0; clear rP0
  have rP1 := P1.out.below hb'; clear P1; have P1 := Lib.hid rP1; clear rP1
  have rFo21 := Fo21.out.below hb'; clear Fo21; have Fo21 := Lib.hid rFo21; clear rFo21
  have rFo23 := Fo23.out.below hb'; clear Fo23; have Fo23 := Lib.hid rFo23; clear rFo23
  have rFo25 := Fo25.out.below hb'; clear Fo25; have Fo25 := Lib.hid rFo25; clear rFo25
  have rFo32 := Fo32.out.below hb'; clear Fo32; have Fo32 := Lib.hid rFo32; clear rFo32
  have rB := below_chain B.out (by omega) hb'; clear B; have B := Lib.hid rB; clear rB
  clear hb hb'
  go_wp2_with fail
  have fx_c18_a0_0 := Ext.cell c18_a0_0
  have fx_c18_a0_1 := Ext.cell c18_a0_1
  have fx_c18_a0_2 := Ext.cell c18_a0_2
  have fx_c18_a1_0 := Ext.cell c18_a1_0
  have fx_c18_a1_1 := Ext.cell c18_a1_1
  have fx_c18_a1_2 := Ext.cell c18_a1_2
  have fx_c18_o23_0 := Ext.cell c18_o23_0
  have fx_c18_o23_1 := Ext.cell c18_o23_1
  have fx_c18_o23_2 := Ext.cell c18_o23_2
  have fx_c18_o25_0 := Ext.cell c18_o25_0
  have fx_c18_o25_1 := Ext.cell c18_o25_1
  have fx_c18_o25_2 := Ext.cell c18_o25_2
  refine Mix.wp_region_mix [3, 1, 3, 1, 1, 0, 0, 0, 0, 0] (fun w' => ∃ x : Ext w18, w' = x.w) (by kernel_rfl) (by kernel_rfl) (InExt.drew _) ?_
  repeat (first | (refine Mix.wpMix_read (by rfl) ?_; go_big_quiet_step (fail); refine wpQuiet_nil ?_) | (refine Mix.wpMix_pure (by rfl) ?_; go_big_quiet_step (fail); refine wpQuiet_nil ?_))
  refine Mix.wpMix_chg (by rfl) (fun K hK => ?_)
  go_wp2_with fail
  refine (toMachine_c _ _ _ _ _ _ _ (by exact (P0.out.rd)) (by omega)).mono ?_
  rintro e w19 ⟨g037, rfl, q19, hb⟩
  have hb' : Below w18.heap.size w18 w19 := (by first | (with_reducible exact hb) | (with_reducible exact up1 hb) | (with_reducible exact up2 hb) | (with_reducible exact up3 hb) | (with_reducible exact up4 hb) | (with_reducible exact below_of_drew hb) | (with_reducible exact below_of_drew (up1 hb)))
  have z19 := hb'.size
  have c19_a0_0 : w19.cell? ⟨w.heap.size, 0, none⟩ = some (.int .i64 sy0) := keepc hb' c18_a0_0
  clear c18_a0_0 ac18_a0_0
  have c19_a0_1 : w19.cell? ⟨w.heap.size, 1, none⟩ = some (.int .i64 st0) := keepc hb' c18_a0_1
  clear c18_a0_1 ac18_a0_1
  have c19_a0_2 : w19.cell? ⟨w.heap.size, 2, none⟩ = some (.slice A0 n0 c0) := keepc hb' c18_a0_2
  clear c18_a0_2 ac18_a0_2
  have c19_a1_0 : w19.cell? ⟨(w.heap.size + 1), 0, none⟩ = some (.int .i64 st1) := keepc hb' c18_a1_0
  clear c18_a1_0 ac18_a1_0
  have c19_a1_1 : w19.cell? ⟨(w.heap.size + 1), 1, none⟩ = some (.int .i64 at1) := keepc hb' c18_a1_1
  clear c18_a1_1 ac18_a1_1
  have c19_a1_2 : w19.cell? ⟨(w.heap.size + 1), 2, none⟩ = some (.slice A1 n1 c1) := keepc hb' c18_a1_2
  clear c18_a1_2 ac18_a1_2
  have c19_o23_0 : w19.cell? ⟨w6.heap.size, 0, none⟩ = some (.int .i64 sy0) := keepc hb' c18_o23_0
  clear c18_o23_0 ac18_o23_0
  have c19_o23_1 : w19.cell? ⟨w6.heap.size, 1, none⟩ = some (.int .i64 st0) := keepc hb' c18_o23_1
  clear c18_o23_1 ac18_o23_1
  have c19_o23_2 : w19.cell? ⟨w6.heap.size, 2, none⟩ = some (.slice (some ⟨g022, 0, none⟩) n0 n0) := keepc hb' c18_o23_2
  clear c18_o23_2 ac18_o23_2
  have c19_o25_0 : w19.cell? ⟨w7.heap.size, 0, none⟩ = some (.int .i64 st1) := keepc hb' c18_o25_0
  clear c18_o25_0 ac18_o25_0
  have c19_o25_1 : w19.cell? ⟨w7.heap.size, 1, none⟩ = some (.int .i64 at1) := keepc hb' c18_o25_1
  clear c18_o25_1 ac18_o25_1
  have c19_o25_2 : w19.cell? ⟨w7.heap.size, 2, none⟩ = some (.slice (some ⟨g024, 0, none⟩) n1 n1) := keepc hb' c18_o25_2
  clear c18_o25_2 ac18_o25_2
  have ac19_a0_0 := fun o => keepa o c19_a0_0
  have ac19_a0_1 := fun o => keepa o c19_a0_1
  have ac19_a0_2 := fun o => keepa o c19_a0_2
  have ac19_a1_0 := fun o => keepa o c19_a1_0
  have ac19_a1_1 := fun o => keepa o c19_a1_1
  have ac19_a1_2 := fun o => keepa o c19_a1_2
  have ac19_o23_0 := fun o => keepa o c19_o23_0
  have ac19_o23_1 := fun o => keepa o c19_o23_1
  have ac19_o23_2 := fun o => keepa o c19_o23_2
  have ac19_o25_0 := fun o => keepa o c19_o25_0
  have ac19_o25_1 := fun o => keepa o c19_o25_1
  have ac19_o25_2 := fun o => keepa o c19_o25_2
  have rP0 := P0.out.below hb'; clear P0; have P0 := Lib.hid rP0; clear rP0
  have rP1 := P1.out.below hb'; clear P1; have P1 := Lib.hid rP1; clear rP1
  have rFo21 := Fo21.out.below hb'; clear Fo21; have Fo21 := Lib.hid rFo21; clear rFo21
  have rFo23 := Fo23.out.below hb'; clear Fo23; have Fo23 := Lib.hid rFo23; clear rFo23
  have rFo25 := Fo25.out.below hb'; clear Fo25; have Fo25 := Lib.hid rFo25; clear rFo25
  have rFo32 := Fo32.out.below hb'; clear Fo32; have Fo32 := Lib.hid rFo32; clear rFo32
  have rB := below_chain B.out (by omega) hb'; clear B; have B := Lib.hid rB; clear rB
  have Fo38 := Lib.hid q19; clear q19
  have em19 : Below w18.heap.size w18 w19 := hb'
  clear hb hb'
  go_wp2_with fail
  refine hK _ _ ⟨⟨_, em19⟩, rfl⟩ ?_
  clear hK K
  repeat (first | (refine Mix.wpMix_read (by rfl) ?_; go_big_quiet_step (fail); refine wpQuiet_nil ?_) | (refine Mix.wpMix_pure (by rfl) ?_; go_big_quiet_step (fail); refine wpQuiet_nil ?_))
  refine Mix.wpMix_chg (by rfl) (fun K hK => ?_)
  go_wp2_with fail
  refine (toPartial_c _ _ _ _ _ _ _ (by exact (P1.out.rd)) (by omega)).mono ?_
  rintro e w20 ⟨g039, rfl, q20, hb⟩
  have hb' : Below w19.heap.size w19 w20 := (by first | (with_reducible exact hb) | (with_reducible exact up1 hb) | (with_reducible exact up2 hb) | (with_reducible exact up3 hb) | (with_reducible exact up4 hb) | (with_reducible exact below_of_drew hb) | (with_reducible exact below_of_drew (up1 hb)))
  have z20 := hb'.size
  have c20_a0_0 : w20.cell? ⟨w.heap.size, 0, none⟩ = some (.int .i64 sy0) := keepc hb' c19_a0_0
  clear c19_a0_0 ac19_a0_0
  have c20_a0_1 : w20.cell? ⟨w.heap.size, 1, none⟩ = some (.int .i64 st0) := keepc hb' c19_a0_1
  clear c19_a0_1 ac19_a0_1
  have c20_a0_2 : w20.cell? ⟨w.heap.size, 2, none⟩ = some (.slice A0 n0 c0) := keepc hb' c19_a0_2
  clear c19_a0_2 ac19_a0_2
  have c20_a1_0 : w20.cell? ⟨(w.heap.size + 1), 0, none⟩ = some (.int .i64 st1) := keepc hb' c19_a1_0
  clear c19_a1_0 ac19_a1_0
  have c20_a1_1 : w20.cell? ⟨(w.heap.size + 1), 1, none⟩ = some (.int .i64 at1) := keepc hb' c19_a1_1
  clear c19_a1_1 ac19_a1_1
  have c20_a1_2 : w20.cell? ⟨(w.heap.size + 1), 2, none⟩ = some (.slice A1 n1 c1) := keepc hb' c19_a1_2
  clear c19_a1_2 ac19_a1_2
  have c20_o23_0 : w20.cell? ⟨w6.heap.size, 0, none⟩ = some (.int .i64 sy0) := keepc hb' c19_o23_0
  clear c19_o23_0 ac19_o23_0
  have c20_o23_1 : w20.cell? ⟨w6.heap.size, 1, none⟩ = some (.int .i64 st0) := keepc hb' c19_o23_1
  clear c19_o23_1 ac19_o23_1
  have c20_o23_2 : w20.cell? ⟨w6.heap.size, 2, none⟩ = some (.slice (some ⟨g022, 0, none⟩) n0 n0) := keepc hb' c19_o23_2
  clear c19_o23_2 ac19_o23_2
  have c20_o25_0 : w20.cell? ⟨w7.heap.size, 0, none⟩ = some (.int .i64 st1) := keepc hb' c19_o25_0
  clear c19_o25_0 ac19_o25_0
  have c20_o25_1 : w20.cell? ⟨w7.heap.size, 1, none⟩ = some (.int .i64 at1) := keepc hb' c19_o25_1
  clear c19_o25_1 ac19_o25_1
  have c20_o25_2 : w20.cell? ⟨w7.heap.size, 2, none⟩ = some (.slice (some ⟨g024, 0, none⟩) n1 n1) := keepc hb' c19_o25_2
  clear c19_o25_2 ac19_o25_2
  have ac20_a0_0 := fun o => keepa o c20_a0_0
  have ac20_a0_1 := fun o => keepa o c20_a0_1
  have ac20_a0_2 := fun o => keepa o c20_a0_2
  have ac20_a1_0 := fun o => keepa o c20_a1_0
  have ac20_a1_1 := fun o => keepa o c20_a1_1
  have ac20_a1_2 := fun o => keepa o c20_a1_2
  have ac20_o23_0 := fun o => keepa o c20_o23_0
  have ac20_o23_1 := fun o => keepa o c20_o23_1
  have ac20_o23_2 := fun o => keepa o c20_o23_2
  have ac20_o25_0 := fun o => keepa o c20_o25_0
  have ac20_o25_1 := fun o => keepa o c20_o25_1
  have ac20_o25_2 := fun o => keepa o c20_o25_2
  have rP0 := P0.out.below hb'; clear P0; have P0 := Lib.hid rP0; clear rP0
  have rP1 := P1.out.below hb'; clear P1; have P1 := Lib.hid rP1; clear rP1
  have rFo21 := Fo21.out.below hb'; clear Fo21; have Fo21 := Lib.hid rFo21; clear rFo21
  have rFo23 := Fo23.out.below hb'; clear Fo23; have Fo23 := Lib.hid rFo23; clear rFo23
  have rFo25 := Fo25.out.below hb'; clear Fo25; have Fo25 := Lib.hid rFo25; clear rFo25
  have rFo32 := Fo32.out.below hb'; clear Fo32; have Fo32 := Lib.hid rFo32; clear rFo32
  have rFo38 := Fo38.out.below hb'; clear Fo38; have Fo38 := Lib.hid rFo38; clear rFo38
  have rB := below_chain B.out (by omega) hb'; clear B; have B := Lib.hid rB; clear rB
  have Fo40 := Lib.hid q20; clear q20
  have em20 : Below w18.heap.size w18 w20 := below_chain em19 (by omega) hb'
  clear hb hb'
  go_wp2_with fail
  refine hK _ _ ⟨⟨_, em20⟩, rfl⟩ ?_
  clear hK K
  refine Mix.wpMix_chg (by rfl) (fun K hK => ?_)
  go_wp2_with fail
  refine (iPredecessorsOf_c _ _ _ _ _ _ _ _ _ _ _ _ _ (by exact (Fo38.out.rd)) (by exact (Fo40.out.rd)) (by omega) (by omega)).mono ?_
  rintro e w21 ⟨A41, n42, c43, ps44, rfl, q45, l46, hb⟩
  have hb' : Below w20.heap.size w20 w21 := (by first | (with_reducible exact hb) | (with_reducible exact up1 hb) | (with_reducible exact up2 hb) | (with_reducible exact up3 hb) | (with_reducible exact up4 hb) | (with_reducible exact below_of_drew hb) | (with_reducible exact below_of_drew (up1 hb)))
  have z21 := hb'.size
  have c21_a0_0 : w21.cell? ⟨w.heap.size, 0, none⟩ = some (.int .i64 sy0) := keepc hb' c20_a0_0
  clear c20_a0_0 ac20_a0_0
  have c21_a0_1 : w21.cell? ⟨w.heap.size, 1, none⟩ = some (.int .i64 st0) := keepc hb' c20_a0_1
  clear c20_a0_1 ac20_a0_1
  have c21_a0_2 : w21.cell? ⟨w.heap.size, 2, none⟩ = some (.slice A0 n0 c0) := keepc hb' c20_a0_2
  clear c20_a0_2 ac20_a0_2
  have c21_a1_0 : w21.cell? ⟨(w.heap.size + 1), 0, none⟩ = some (.int .i64 st1) := keepc hb' c20_a1_0
  clear c20_a1_0 ac20_a1_0
  have c21_a1_1 : w21.cell? ⟨(w.heap.size + 1), 1, none⟩ = some (.int .i64 at1) := keepc hb' c20_a1_1
  clear c20_a1_1 ac20_a1_1
  have c21_a1_2 : w21.cell? ⟨(w.heap.size + 1), 2, none⟩ = some (.slice A1 n1 c1) := keepc hb' c20_a1_2
  clear c20_a1_2 ac20_a1_2
  have c21_o23_0 : w21.cell? ⟨w6.heap.size, 0, none⟩ = some (.int .i64 sy0) := keepc hb' c20_o23_0
  clear c20_o23_0 ac20_o23_0
  have c21_o23_1 : w21.cell? ⟨w6.heap.size, 1, none⟩ = some (.int .i64 st0) := keepc hb' c20_o23_1
  clear c20_o23_1 ac20_o23_1
  have c21_o23_2 : w21.cell? ⟨w6.heap.size, 2, none⟩ = some (.slice (some ⟨g022, 0, none⟩) n0 n0) := keepc hb' c20_o23_2
  clear c20_o23_2 ac20_o23_2
  have c21_o25_0 : w21.cell? ⟨w7.heap.size, 0, none⟩ = some (.int .i64 st1) := keepc hb' c20_o25_0
  clear c20_o25_0 ac20_o25_0
  have c21_o25_1 : w21.cell? ⟨w7.heap.size, 1, none⟩ = some (.int .i64 at1) := keepc hb' c20_o25_1
  clear c20_o25_1 ac20_o25_1
  have c21_o25_2 : w21.cell? ⟨w7.heap.size, 2, none⟩ = some (.slice (some ⟨g024, 0, none⟩) n1 n1) := keepc hb' c20_o25_2
  clear c20_o25_2 ac20_o25_2
  have ac21_a0_0 := fun o => keepa o c21_a0_0
  have ac21_a0_1 := fun o => keepa o c21_a0_1
  have ac21_a0_2 := fun o => keepa o c21_a0_2
  have ac21_a1_0 := fun o => keepa o c21_a1_0
  have ac21_a1_1 := fun o => keepa o c21_a1_1
  have ac21_a1_2 := fun o => keepa o c21_a1_2
  have ac21_o23_0 := fun o => keepa o c21_o23_0
  have ac21_o23_1 := fun o => keepa o c21_o23_1
  have ac21_o23_2 := fun o => keepa o c21_o23_2
  have ac21_o25_0 := fun o => keepa o c21_o25_0
  have ac21_o25_1 := fun o => keepa o c21_o25_1
  have ac21_o25_2 := fun o => keepa o c21_o25_2
  have rP0 := P0.out.below hb'; clear P0; have P0 := Lib.hid rP0; clear rP0
  have rP1 := P1.out.below hb'; clear P1; have P1 := Lib.hid rP1; clear rP1
  have rFo21 := Fo21.out.below hb'; clear Fo21; have Fo21 := Lib.hid rFo21; clear rFo21
  have rFo23 := Fo23.out.below hb'; clear Fo23; have Fo23 := Lib.hid rFo23; clear rFo23
  have rFo25 := Fo25.out.below hb'; clear Fo25; have Fo25 := Lib.hid rFo25; clear rFo25
  have rFo32 := Fo32.out.below hb'; clear Fo32; have Fo32 := Lib.hid rFo32; clear rFo32
  have rFo38 := Fo38.out.below hb'; clear Fo38; have Fo38 := Lib.hid rFo38; clear rFo38
  have rFo40 := Fo40.out.below hb'; clear Fo40; have Fo40 := Lib.hid rFo40; clear rFo40
  have rB := below_chain B.out (by omega) hb'; clear B; have B := Lib.hid rB; clear rB
  have Fo47 := Lib.hid q45; clear q45
  obtain ⟨ln_o47, bI0_o47, hs0_o47, bm0_o47⟩ := l46
  have hI0_o47 := (fun t ht => Nat.le_trans (bI0_o47 t ht) (by omega) : ∀ t ∈ ps44, t.n ≤ 1000000000); have hm0_o47 := Lib.hid bm0_o47; clear bI0_o47 bm0_o47
  have em21 : Below w18.heap.size w18 w21 := below_chain em20 (by omega) hb'
  clear hb hb'
  go_wp2_with fail
  refine hK _ _ ⟨⟨_, em21⟩, rfl⟩ ?_
  clear hK K
  repeat (first | (refine Mix.wpMix_read (by rfl) ?_; go_big_quiet_step (fail); refine wpQuiet_nil ?_) | (refine Mix.wpMix_pure (by rfl) ?_; go_big_quiet_step (fail); refine wpQuiet_nil ?_))
  (refine Mix.wpMix_nil ?_; try simp only [Exit.then])
  clear fx_c18_a0_0
  clear fx_c18_a0_1
  clear fx_c18_a0_2
  clear fx_c18_a1_0
  clear fx_c18_a1_1
  clear fx_c18_a1_2
  clear fx_c18_o23_0
  clear fx_c18_o23_1
  clear fx_c18_o23_2
  clear fx_c18_o25_0
  clear fx_c18_o25_1
  clear fx_c18_o25_2
  clear Fo38
  clear Fo40
  go_wp2_with fail
  refine (eqPartialS_t _ _ _ _ _ _ _ _ _ (by exact (Fo47.out.rd)) (by exact (Fo21.out.rd)) (by omega) hI0_o47 (hm0_o47.out.trans hm0_o21.out.symm)).mono ?_
  rintro e w22 ⟨rfl, hb⟩
  have hb' : Below w21.heap.size w21 w22 := (by first | (with_reducible exact hb) | (with_reducible exact up1 hb) | (with_reducible exact up2 hb) | (with_reducible exact up3 hb) | (with_reducible exact up4 hb) | (with_reducible exact below_of_drew hb) | (with_reducible exact below_of_drew (up1 hb)))
  have z22 := hb'.size
  have c22_a0_0 : w22.cell? ⟨w.heap.size, 0, none⟩ = some (.int .i64 sy0) := keepc hb' c21_a0_0
  clear c21_a0_0 ac21_a0_0
  have c22_a0_1 : w22.cell? ⟨w.heap.size, 1, none⟩ = some (.int .i64 st0) := keepc hb' c21_a0_1
  clear c21_a0_1 ac21_a0_1
  have c22_a0_2 : w22.cell? ⟨w.heap.size, 2, none⟩ = some (.slice A0 n0 c0) := keepc hb' c21_a0_2
  clear c21_a0_2 ac21_a0_2
  have c22_a1_0 : w22.cell? ⟨(w.heap.size + 1), 0, none⟩ = some (.int .i64 st1) := keepc hb' c21_a1_0
  clear c21_a1_0 ac21_a1_0
  have c22_a1_1 : w22.cell? ⟨(w.heap.size + 1), 1, none⟩ = some (.int .i64 at1) := keepc hb' c21_a1_1
  clear c21_a1_1 ac21_a1_1
  have c22_a1_2 : w22.cell? ⟨(w.heap.size + 1), 2, none⟩ = some (.slice A1 n1 c1) := keepc hb' c21_a1_2
  clear c21_a1_2 ac21_a1_2
  have c22_o23_0 : w22.cell? ⟨w6.heap.size, 0, none⟩ = some (.int .i64 sy0) := keepc hb' c21_o23_0
  clear c21_o23_0 ac21_o23_0
  have c22_o23_1 : w22.cell? ⟨w6.heap.size, 1, none⟩ = some (.int .i64 st0) := keepc hb' c21_o23_1
  clear c21_o23_1 ac21_o23_1
  have c22_o23_2 : w22.cell? ⟨w6.heap.size, 2, none⟩ = some (.slice (some ⟨g022, 0, none⟩) n0 n0) := keepc hb' c21_o23_2
  clear c21_o23_2 ac21_o23_2
  have c22_o25_0 : w22.cell? ⟨w7.heap.size, 0, none⟩ = some (.int .i64 st1) := keepc hb' c21_o25_0
  clear c21_o25_0 ac21_o25_0
  have c22_o25_1 : w22.cell? ⟨w7.heap.size, 1, none⟩ = some (.int .i64 at1) := keepc hb' c21_o25_1
  clear c21_o25_1 ac21_o25_1
  have c22_o25_2 : w22.cell? ⟨w7.heap.size, 2, none⟩ = some (.slice (some ⟨g024, 0, none⟩) n1 n1) := keepc hb' c21_o25_2
  clear c21_o25_2 ac21_o25_2
  have ac22_a0_0 := fun o => keepa o c22_a0_0
  have ac22_a0_1 := fun o => keepa o c22_a0_1
  have ac22_a0_2 := fun o => keepa o c22_a0_2
  have ac22_a1_0 := fun o => keepa o c22_a1_0
  have ac22_a1_1 := fun o => keepa o c22_a1_1
  have ac22_a1_2 := fun o => keepa o c22_a1_2
  have ac22_o23_0 := fun o => keepa o c22_o23_0
  have ac22_o23_1 := fun o => keepa o c22_o23_1
  have ac22_o23_2 := fun o => keepa o c22_o23_2
  have ac22_o25_0 := fun o => keepa o c22_o25_0
  have ac22_o25_1 := fun o => keepa o c22_o25_1
  have ac22_o25_2 := fun o => keepa o c22_o25_2
  have rP0 := P0.out.below hb'; clear P0; have P0 := Lib.hid rP0; clear rP0
  have rP1 := P1.out.below hb'; clear P1; have P1 := Lib.hid rP1; clear rP1
  have rFo21 := Fo21.out.below hb'; clear Fo21; have Fo21 := Lib.hid rFo21; clear rFo21
  have rFo23 := Fo23.out.below hb'; clear Fo23; have Fo23 := Lib.hid rFo23; clear rFo23
  have rFo25 := Fo25.out.below hb'; clear Fo25; have Fo25 := Lib.hid rFo25; clear rFo25
  have rFo32 := Fo32.out.below hb'; clear Fo32; have Fo32 := Lib.hid rFo32; clear rFo32
  have rFo47 := Fo47.out.below hb'; clear Fo47; have Fo47 := Lib.hid rFo47; clear rFo47
  have rB := below_chain B.out (by omega) hb'; clear B; have B := Lib.hid rB; clear rB
  clear hb hb'
  go_wp2_with fail
  refine (heldPartialS_c _ _ _ _ _ _ (by exact (Fo32.out.rd)) (by omega) hI0_o32 (by omega) (by omega) (by omega)).mono ?_
  rintro e w23 ⟨rfl, hb⟩
  have hb' : Below w22.heap.size w22 w23 := (by first | (with_reducible exact hb) | (with_reducible exact up1 hb) | (with_reducible exact up2 hb) | (with_reducible exact up3 hb) | (with_reducible exact up4 hb) | (with_reducible exact below_of_drew hb) | (with_reducible exact below_of_drew (up1 hb)))
  have z23 := hb'.size
  have c23_a0_0 : w23.cell? ⟨w.heap.size, 0, none⟩ = some (.int .i64 sy0) := keepc hb' c22_a0_0
  clear c22_a0_0 ac22_a0_0
  have c23_a0_1 : w23.cell? ⟨w.heap.size, 1, none⟩ = some (.int .i64 st0) := keepc hb' c22_a0_1
  clear c22_a0_1 ac22_a0_1
  have c23_a0_2 : w23.cell? ⟨w.heap.size, 2, none⟩ = some (.slice A0 n0 c0) := keepc hb' c22_a0_2
  clear c22_a0_2 ac22_a0_2
  have c23_a1_0 : w23.cell? ⟨(w.heap.size + 1), 0, none⟩ = some (.int .i64 st1) := keepc hb' c22_a1_0
  clear c22_a1_0 ac22_a1_0
  have c23_a1_1 : w23.cell? ⟨(w.heap.size + 1), 1, none⟩ = some (.int .i64 at1) := keepc hb' c22_a1_1
  clear c22_a1_1 ac22_a1_1
  have c23_a1_2 : w23.cell? ⟨(w.heap.size + 1), 2, none⟩ = some (.slice A1 n1 c1) := keepc hb' c22_a1_2
  clear c22_a1_2 ac22_a1_2
  have c23_o23_0 : w23.cell? ⟨w6.heap.size, 0, none⟩ = some (.int .i64 sy0) := keepc hb' c22_o23_0
  clear c22_o23_0 ac22_o23_0
  have c23_o23_1 : w23.cell? ⟨w6.heap.size, 1, none⟩ = some (.int .i64 st0) := keepc hb' c22_o23_1
  clear c22_o23_1 ac22_o23_1
  have c23_o23_2 : w23.cell? ⟨w6.heap.size, 2, none⟩ = some (.slice (some ⟨g022, 0, none⟩) n0 n0) := keepc hb' c22_o23_2
  clear c22_o23_2 ac22_o23_2
  have c23_o25_0 : w23.cell? ⟨w7.heap.size, 0, none⟩ = some (.int .i64 st1) := keepc hb' c22_o25_0
  clear c22_o25_0 ac22_o25_0
  have c23_o25_1 : w23.cell? ⟨w7.heap.size, 1, none⟩ = some (.int .i64 at1) := keepc hb' c22_o25_1
  clear c22_o25_1 ac22_o25_1
  have c23_o25_2 : w23.cell? ⟨w7.heap.size, 2, none⟩ = some (.slice (some ⟨g024, 0, none⟩) n1 n1) := keepc hb' c22_o25_2
  clear c22_o25_2 ac22_o25_2
  have ac23_a0_0 := fun o => keepa o c23_a0_0
  have ac23_a0_1 := fun o => keepa o c23_a0_1
  have ac23_a0_2 := fun o => keepa o c23_a0_2
  have ac23_a1_0 := fun o => keepa o c23_a1_0
  have ac23_a1_1 := fun o => keepa o c23_a1_1
  have ac23_a1_2 := fun o => keepa o c23_a1_2
  have ac23_o23_0 := fun o => keepa o c23_o23_0
  have ac23_o23_1 := fun o => keepa o c23_o23_1
  have ac23_o23_2 := fun o => keepa o c23_o23_2
  have ac23_o25_0 := fun o => keepa o c23_o25_0
  have ac23_o25_1 := fun o => keepa o c23_o25_1
  have ac23_o25_2 := fun o => keepa o c23_o25_2
  have rP0 := P0.out.below hb'; clear P0; have P0 := Lib.hid rP0; clear rP0
  have rP1 := P1.out.below hb'; clear P1; have P1 := Lib.hid rP1; clear rP1
  have rFo21 := Fo21.out.below hb'; clear Fo21; have Fo21 := Lib.hid rFo21; clear rFo21
  have rFo23 := Fo23.out.below hb'; clear Fo23; have Fo23 := Lib.hid rFo23; clear rFo23
  have rFo25 := Fo25.out.below hb'; clear Fo25; have Fo25 := Lib.hid rFo25; clear rFo25
  have rFo32 := Fo32.out.below hb'; clear Fo32; have Fo32 := Lib.hid rFo32; clear rFo32
  have rFo47 := Fo47.out.below hb'; clear Fo47; have Fo47 := Lib.hid rFo47; clear rFo47
  have rB := below_chain B.out (by omega) hb'; clear B; have B := Lib.hid rB; clear rB
  clear hb hb'
  go_wp2
  go_ret
  exact ⟨rfl, B.out⟩
end Go.Proofs.Ytfahdgmlhinabaa
