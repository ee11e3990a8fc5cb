/-
  FnExactDerivationOfRun returns true for every input: its walk, out of the contracts.
-/
import Derived.Test.YtcbcjhfeidkeaaaLawMachine
import Derived.Test.YtcbcjhfeidkeaaaLawConfig
import Derived.Test.YtcbcjhfeidkeaaaLawII
import Derived.Test.YtcbcjhfeidkeaaaC16aa
import Derived.Test.YtcbcjhfeidkeaaaOpen
namespace Go.Proofs.Ytcbcjhfeidkeaaa
open Go.RowKit

set_option maxHeartbeats 4000000 in
set_option maxRecDepth 100000 in
theorem walkDerivationOfRun (sy0 : Int) (st0 : Int) (A0 : Option Addr) (n0 : Nat) (c0 : Nat) (xs0 : List (Int × Int × Int)) (st1 : Int) (A1 : Option Addr) (n1 : Nat) (c1 : Nat) (xs1 : List Int) (B1 : Option Addr) (m1 : Nat) (d1 : Nat) (ys1 : List Int) (x2 : Int) (w : World) (h0 : RdS w [sgX enc3 3 A0 n0 xs0]) (hb0_0 : n0 ≤ 9223372036854775807) (_o0 : i64ok sy0) (_p0 : i64ok st0) (_oo0 : ∀ x ∈ xs0, i64ok x.1 ∧ i64ok x.2.1 ∧ i64ok x.2.2) (h1 : RdS w ([sgI A1 n1 xs1] ++ [sgI B1 m1 ys1])) (hb1_0 : n1 ≤ 9223372036854775807) (hb1_1 : m1 ≤ 9223372036854775807) (_o1 : i64ok st1) (_oo1 : ∀ x ∈ xs1, i64ok x) (_pp1 : ∀ x ∈ ys1, i64ok x) (_o2 : i64ok x2) :
    Calls Try.prog 5 #[.agg #[.int .i64 sy0, .int .i64 st0, .slice A0 n0 c0], .agg #[.int .i64 st1, .slice A1 n1 c1, .slice B1 m1 d1], .int .i64 x2] w fun e w' => e = .returned (.bool true) ∧ Below w.heap.size w w' := by
  have P0 := Lib.hid (RdSU.mk' h0); clear h0
  have P1 := Lib.hid (RdSU.mk' h1); clear h1
  obtain ⟨RR, hRR⟩ : ∃ RR, derR sy0 st0 xs0 st1 xs1 ys1 x2 = RR := ⟨_, rfl⟩; have HRR := Lib.hid hRR; clear hRR
  go_enter Try.func5, Try.ntmps5
  go_wp2_with fail
  refine (szMachine_c _ _ _ _ _ xs0 _ _ hb0_0 (by omega) (by omega)).mono ?_
  rintro e w1 ⟨rfl, hb⟩
  have hb' : Below w.heap.size w w1 := (by first | (with_reducible exact hb) | (with_reducible exact up1 hb) | (with_reducible exact up2 hb) | (with_reducible exact up3 hb) | (with_reducible exact up4 hb) | (with_reducible exact below_of_drew hb) | (with_reducible exact below_of_drew (up1 hb)))
  have z1 := hb'.size
  have c1_a0_0 : w1.cell? ⟨w.heap.size, 0, none⟩ = some (.int .i64 sy0) := keepc hb (by first | (simp; done) | (rw [World.cell?_alloc_past _ _ _ (by simp <;> omega)]; simp; done) | (rw [World.cell?_alloc_past _ _ _ (by simp <;> omega), World.cell?_alloc_past _ _ _ (by simp <;> omega)]; simp; done) | (rw [World.cell?_alloc_past _ _ _ (by simp <;> omega), World.cell?_alloc_past _ _ _ (by simp <;> omega), World.cell?_alloc_past _ _ _ (by simp <;> omega)]; simp; done) | (rw [World.cell?_alloc_at _ _ _ _ (by simp)]; simp; done) | (rw [World.cell?_alloc_past _ _ _ (by simp <;> omega), World.cell?_alloc_at _ _ _ _ (by simp)]; simp; done) | (rw [World.cell?_alloc_past _ _ _ (by simp <;> omega), World.cell?_alloc_past _ _ _ (by simp <;> omega), World.cell?_alloc_at _ _ _ _ (by simp)]; simp; done) | (rw [World.cell?_alloc_past _ _ _ (by simp <;> omega), World.cell?_alloc_past _ _ _ (by simp <;> omega), World.cell?_alloc_past _ _ _ (by simp <;> omega), World.cell?_alloc_at _ _ _ _ (by simp)]; simp; done))
  have hl_c1_a0_0 : w.heap.size < w1.heap.size := World.block_lt_of_cell? w1 _ c1_a0_0
  have c1_a0_1 : w1.cell? ⟨w.heap.size, 1, none⟩ = some (.int .i64 st0) := keepc hb (by first | (simp; done) | (rw [World.cell?_alloc_past _ _ _ (by simp <;> omega)]; simp; done) | (rw [World.cell?_alloc_past _ _ _ (by simp <;> omega), World.cell?_alloc_past _ _ _ (by simp <;> omega)]; simp; done) | (rw [World.cell?_alloc_past _ _ _ (by simp <;> omega), World.cell?_alloc_past _ _ _ (by simp <;> omega), World.cell?_alloc_past _ _ _ (by simp <;> omega)]; simp; done) | (rw [World.cell?_alloc_at _ _ _ _ (by simp)]; simp; done) | (rw [World.cell?_alloc_past _ _ _ (by simp <;> omega), World.cell?_alloc_at _ _ _ _ (by simp)]; simp; done) | (rw [World.cell?_alloc_past _ _ _ (by simp <;> omega), World.cell?_alloc_past _ _ _ (by simp <;> omega), World.cell?_alloc_at _ _ _ _ (by simp)]; simp; done) | (rw [World.cell?_alloc_past _ _ _ (by simp <;> omega), World.cell?_alloc_past _ _ _ (by simp <;> omega), World.cell?_alloc_past _ _ _ (by simp <;> omega), World.cell?_alloc_at _ _ _ _ (by simp)]; simp; done))
  have c1_a0_2 : w1.cell? ⟨w.heap.size, 2, none⟩ = some (.slice A0 n0 c0) := keepc hb (by first | (simp; done) | (rw [World.cell?_alloc_past _ _ _ (by simp <;> omega)]; simp; done) | (rw [World.cell?_alloc_past _ _ _ (by simp <;> omega), World.cell?_alloc_past _ _ _ (by simp <;> omega)]; simp; done) | (rw [World.cell?_alloc_past _ _ _ (by simp <;> omega), World.cell?_alloc_past _ _ _ (by simp <;> omega), World.cell?_alloc_past _ _ _ (by simp <;> omega)]; simp; done) | (rw [World.cell?_alloc_at _ _ _ _ (by simp)]; simp; done) | (rw [World.cell?_alloc_past _ _ _ (by simp <;> omega), World.cell?_alloc_at _ _ _ _ (by simp)]; simp; done) | (rw [World.cell?_alloc_past _ _ _ (by simp <;> omega), World.cell?_alloc_past _ _ _ (by simp <;> omega), World.cell?_alloc_at _ _ _ _ (by simp)]; simp; done) | (rw [World.cell?_alloc_past _ _ _ (by simp <;> omega), World.cell?_alloc_past _ _ _ (by simp <;> omega), World.cell?_alloc_past _ _ _ (by simp <;> omega), World.cell?_alloc_at _ _ _ _ (by simp)]; simp; done))
  have c1_a1_0 : w1.cell? ⟨(w.heap.size + 1), 0, none⟩ = some (.int .i64 st1) := keepc hb (by first | (simp; done) | (rw [World.cell?_alloc_past _ _ _ (by simp <;> omega)]; simp; done) | (rw [World.cell?_alloc_past _ _ _ (by simp <;> omega), World.cell?_alloc_past _ _ _ (by simp <;> omega)]; simp; done) | (rw [World.cell?_alloc_past _ _ _ (by simp <;> omega), World.cell?_alloc_past _ _ _ (by simp <;> omega), World.cell?_alloc_past _ _ _ (by simp <;> omega)]; simp; done) | (rw [World.cell?_alloc_at _ _ _ _ (by simp)]; simp; done) | (rw [World.cell?_alloc_past _ _ _ (by simp <;> omega), World.cell?_alloc_at _ _ _ _ (by simp)]; simp; done) | (rw [World.cell?_alloc_past _ _ _ (by simp <;> omega), World.cell?_alloc_past _ _ _ (by simp <;> omega), World.cell?_alloc_at _ _ _ _ (by simp)]; simp; done) | (rw [World.cell?_alloc_past _ _ _ (by simp <;> omega), World.cell?_alloc_past _ _ _ (by simp <;> omega), World.cell?_alloc_past _ _ _ (by simp <;> omega), World.cell?_alloc_at _ _ _ _ (by simp)]; simp; done))
  have hl_c1_a1_0 : (w.heap.size + 1) < w1.heap.size := World.block_lt_of_cell? w1 _ c1_a1_0
  have c1_a1_1 : w1.cell? ⟨(w.heap.size + 1), 1, none⟩ = some (.slice A1 n1 c1) := keepc hb (by first | (simp; done) | (rw [World.cell?_alloc_past _ _ _ (by simp <;> omega)]; simp; done) | (rw [World.cell?_alloc_past _ _ _ (by simp <;> omega), World.cell?_alloc_past _ _ _ (by simp <;> omega)]; simp; done) | (rw [World.cell?_alloc_past _ _ _ (by simp <;> omega), World.cell?_alloc_past _ _ _ (by simp <;> omega), World.cell?_alloc_past _ _ _ (by simp <;> omega)]; simp; done) | (rw [World.cell?_alloc_at _ _ _ _ (by simp)]; simp; done) | (rw [World.cell?_alloc_past _ _ _ (by simp <;> omega), World.cell?_alloc_at _ _ _ _ (by simp)]; simp; done) | (rw [World.cell?_alloc_past _ _ _ (by simp <;> omega), World.cell?_alloc_past _ _ _ (by simp <;> omega), World.cell?_alloc_at _ _ _ _ (by simp)]; simp; done) | (rw [World.cell?_alloc_past _ _ _ (by simp <;> omega), World.cell?_alloc_past _ _ _ (by simp <;> omega), World.cell?_alloc_past _ _ _ (by simp <;> omega), World.cell?_alloc_at _ _ _ _ (by simp)]; simp; done))
  have c1_a1_2 : w1.cell? ⟨(w.heap.size + 1), 2, none⟩ = some (.slice B1 m1 d1) := keepc hb (by first | (simp; done) | (rw [World.cell?_alloc_past _ _ _ (by simp <;> omega)]; simp; done) | (rw [World.cell?_alloc_past _ _ _ (by simp <;> omega), World.cell?_alloc_past _ _ _ (by simp <;> omega)]; simp; done) | (rw [World.cell?_alloc_past _ _ _ (by simp <;> omega), World.cell?_alloc_past _ _ _ (by simp <;> omega), World.cell?_alloc_past _ _ _ (by simp <;> omega)]; simp; done) | (rw [World.cell?_alloc_at _ _ _ _ (by simp)]; simp; done) | (rw [World.cell?_alloc_past _ _ _ (by simp <;> omega), World.cell?_alloc_at _ _ _ _ (by simp)]; simp; done) | (rw [World.cell?_alloc_past _ _ _ (by simp <;> omega), World.cell?_alloc_past _ _ _ (by simp <;> omega), World.cell?_alloc_at _ _ _ _ (by simp)]; simp; done) | (rw [World.cell?_alloc_past _ _ _ (by simp <;> omega), World.cell?_alloc_past _ _ _ (by simp <;> omega), World.cell?_alloc_past _ _ _ (by simp <;> omega), World.cell?_alloc_at _ _ _ _ (by simp)]; simp; done))
  have ac1_a0_0 := fun o => keepa o c1_a0_0
  have ac1_a0_1 := fun o => keepa o c1_a0_1
  have ac1_a0_2 := fun o => keepa o c1_a0_2
  have ac1_a1_0 := fun o => keepa o c1_a1_0
  have ac1_a1_1 := fun o => keepa o c1_a1_1
  have ac1_a1_2 := fun o => keepa o c1_a1_2
  have rP0 := P0.out.below hb'; clear P0; have P0 := Lib.hid rP0; clear rP0
  have rP1 := P1.out.below hb'; clear P1; have P1 := Lib.hid rP1; clear rP1
  have rB := hb'; have B := Lib.hid rB; clear rB
  clear hb hb'
  by_cases hs1 : 1048576 < n0
  · rw [szOf_neg' (by omega)]
    go_wp2
    go_ret
    exact ⟨rfl, B.out⟩
  rw [szOf_pos' (by omega)]
  have hs1' : (0 : Int) ≤ 1048576 - (n0 : Nat) := by omega
  go_wp2_with fail
  refine (szConfig_c _ _ _ _ xs1 _ _ _ ys1 _ _ hb1_0 hb1_1 (by omega) (by omega)).mono ?_
  rintro e w2 ⟨rfl, hb⟩
  have hb' : Below w1.heap.size w1 w2 := (by first | (with_reducible exact hb) | (with_reducible exact up1 hb) | (with_reducible exact up2 hb) | (with_reducible exact up3 hb) | (with_reducible exact up4 hb) | (with_reducible exact below_of_drew hb) | (with_reducible exact below_of_drew (up1 hb)))
  have z2 := hb'.size
  have c2_a0_0 : w2.cell? ⟨w.heap.size, 0, none⟩ = some (.int .i64 sy0) := keepc hb' c1_a0_0
  clear c1_a0_0 ac1_a0_0
  have c2_a0_1 : w2.cell? ⟨w.heap.size, 1, none⟩ = some (.int .i64 st0) := keepc hb' c1_a0_1
  clear c1_a0_1 ac1_a0_1
  have c2_a0_2 : w2.cell? ⟨w.heap.size, 2, none⟩ = some (.slice A0 n0 c0) := keepc hb' c1_a0_2
  clear c1_a0_2 ac1_a0_2
  have c2_a1_0 : w2.cell? ⟨(w.heap.size + 1), 0, none⟩ = some (.int .i64 st1) := keepc hb' c1_a1_0
  clear c1_a1_0 ac1_a1_0
  have c2_a1_1 : w2.cell? ⟨(w.heap.size + 1), 1, none⟩ = some (.slice A1 n1 c1) := keepc hb' c1_a1_1
  clear c1_a1_1 ac1_a1_1
  have c2_a1_2 : w2.cell? ⟨(w.heap.size + 1), 2, none⟩ = some (.slice B1 m1 d1) := keepc hb' c1_a1_2
  clear c1_a1_2 ac1_a1_2
  have ac2_a0_0 := fun o => keepa o c2_a0_0
  have ac2_a0_1 := fun o => keepa o c2_a0_1
  have ac2_a0_2 := fun o => keepa o c2_a0_2
  have ac2_a1_0 := fun o => keepa o c2_a1_0
  have ac2_a1_1 := fun o => keepa o c2_a1_1
  have ac2_a1_2 := fun o => keepa o c2_a1_2
  have rP0 := P0.out.below hb'; clear P0; have P0 := Lib.hid rP0; clear rP0
  have rP1 := P1.out.below hb'; clear P1; have P1 := Lib.hid rP1; clear rP1
  have rB := below_chain B.out (by omega) hb'; clear B; have B := Lib.hid rB; clear rB
  clear hb hb'
  by_cases hs2 : 1048576 - (n0 : Nat) < (n1 + m1)
  · rw [szOf_neg' (by omega)]
    go_wp2
    go_ret
    exact ⟨rfl, B.out⟩
  rw [szOf_pos' (by omega)]
  have hs2' : (0 : Int) ≤ 1048576 - (n0 : Nat) - ((n1 + m1) : Nat) := by omega
  go_wp2_with fail
  have fx_c2_a0_0 := Ext.cell c2_a0_0
  have fx_c2_a0_1 := Ext.cell c2_a0_1
  have fx_c2_a0_2 := Ext.cell c2_a0_2
  have fx_c2_a1_0 := Ext.cell c2_a1_0
  have fx_c2_a1_1 := Ext.cell c2_a1_1
  have fx_c2_a1_2 := Ext.cell c2_a1_2
  refine Mix.wp_region_mix [3, 1, 3, 1, 0, 1, 0, 0, 0, 0, 0] (fun w' => ∃ x : Ext w2, w' = x.w) (by kernel_rfl) (by kernel_rfl) (InExt.drew _) ?_
  repeat (first | (refine Mix.wpMix_read (by rfl) ?_; go_big_quiet_step (fail); refine wpQuiet_nil ?_) | (refine Mix.wpMix_pure (by rfl) ?_; go_big_quiet_step (fail); refine wpQuiet_nil ?_))
  refine Mix.wpMix_chg (by rfl) (fun K hK => ?_)
  go_wp2_with fail
  refine (toMachine_c _ _ _ _ _ _ _ (by exact (P0.out.rd)) (by omega)).mono ?_
  rintro e w3 ⟨g011, rfl, q3, hb⟩
  have hb' : Below w2.heap.size w2 w3 := (by first | (with_reducible exact hb) | (with_reducible exact up1 hb) | (with_reducible exact up2 hb) | (with_reducible exact up3 hb) | (with_reducible exact up4 hb) | (with_reducible exact below_of_drew hb) | (with_reducible exact below_of_drew (up1 hb)))
  have z3 := hb'.size
  have c3_a0_0 : w3.cell? ⟨w.heap.size, 0, none⟩ = some (.int .i64 sy0) := keepc hb' c2_a0_0
  clear c2_a0_0 ac2_a0_0
  have c3_a0_1 : w3.cell? ⟨w.heap.size, 1, none⟩ = some (.int .i64 st0) := keepc hb' c2_a0_1
  clear c2_a0_1 ac2_a0_1
  have c3_a0_2 : w3.cell? ⟨w.heap.size, 2, none⟩ = some (.slice A0 n0 c0) := keepc hb' c2_a0_2
  clear c2_a0_2 ac2_a0_2
  have c3_a1_0 : w3.cell? ⟨(w.heap.size + 1), 0, none⟩ = some (.int .i64 st1) := keepc hb' c2_a1_0
  clear c2_a1_0 ac2_a1_0
  have c3_a1_1 : w3.cell? ⟨(w.heap.size + 1), 1, none⟩ = some (.slice A1 n1 c1) := keepc hb' c2_a1_1
  clear c2_a1_1 ac2_a1_1
  have c3_a1_2 : w3.cell? ⟨(w.heap.size + 1), 2, none⟩ = some (.slice B1 m1 d1) := keepc hb' c2_a1_2
  clear c2_a1_2 ac2_a1_2
  have ac3_a0_0 := fun o => keepa o c3_a0_0
  have ac3_a0_1 := fun o => keepa o c3_a0_1
  have ac3_a0_2 := fun o => keepa o c3_a0_2
  have ac3_a1_0 := fun o => keepa o c3_a1_0
  have ac3_a1_1 := fun o => keepa o c3_a1_1
  have ac3_a1_2 := fun o => keepa o c3_a1_2
  have rP0 := P0.out.below hb'; clear P0; have P0 := Lib.hid rP0; clear rP0
  have rP1 := P1.out.below hb'; clear P1; have P1 := Lib.hid rP1; clear rP1
  have rB := below_chain B.out (by omega) hb'; clear B; have B := Lib.hid rB; clear rB
  have Fo12 := Lib.hid q3; clear q3
  have em3 : Below w2.heap.size w2 w3 := hb'
  clear hb hb'
  go_wp2_with fail
  refine hK _ _ ⟨⟨_, em3⟩, rfl⟩ ?_
  clear hK K
  repeat (first | (refine Mix.wpMix_read (by rfl) ?_; go_big_quiet_step (fail); refine wpQuiet_nil ?_) | (refine Mix.wpMix_pure (by rfl) ?_; go_big_quiet_step (fail); refine wpQuiet_nil ?_))
  refine Mix.wpMix_chg (by rfl) (fun K hK => ?_)
  go_wp2_with fail
  refine (toConfig_c _ _ _ _ _ _ _ _ _ _ (by exact (P1.out.rd)) (by omega) (by omega)).mono ?_
  rintro e w4 ⟨g013, g114, rfl, q4, hb⟩
  have hb' : Below w3.heap.size w3 w4 := (by first | (with_reducible exact hb) | (with_reducible exact up1 hb) | (with_reducible exact up2 hb) | (with_reducible exact up3 hb) | (with_reducible exact up4 hb) | (with_reducible exact below_of_drew hb) | (with_reducible exact below_of_drew (up1 hb)))
  have z4 := hb'.size
  have c4_a0_0 : w4.cell? ⟨w.heap.size, 0, none⟩ = some (.int .i64 sy0) := keepc hb' c3_a0_0
  clear c3_a0_0 ac3_a0_0
  have c4_a0_1 : w4.cell? ⟨w.heap.size, 1, none⟩ = some (.int .i64 st0) := keepc hb' c3_a0_1
  clear c3_a0_1 ac3_a0_1
  have c4_a0_2 : w4.cell? ⟨w.heap.size, 2, none⟩ = some (.slice A0 n0 c0) := keepc hb' c3_a0_2
  clear c3_a0_2 ac3_a0_2
  have c4_a1_0 : w4.cell? ⟨(w.heap.size + 1), 0, none⟩ = some (.int .i64 st1) := keepc hb' c3_a1_0
  clear c3_a1_0 ac3_a1_0
  have c4_a1_1 : w4.cell? ⟨(w.heap.size + 1), 1, none⟩ = some (.slice A1 n1 c1) := keepc hb' c3_a1_1
  clear c3_a1_1 ac3_a1_1
  have c4_a1_2 : w4.cell? ⟨(w.heap.size + 1), 2, none⟩ = some (.slice B1 m1 d1) := keepc hb' c3_a1_2
  clear c3_a1_2 ac3_a1_2
  have ac4_a0_0 := fun o => keepa o c4_a0_0
  have ac4_a0_1 := fun o => keepa o c4_a0_1
  have ac4_a0_2 := fun o => keepa o c4_a0_2
  have ac4_a1_0 := fun o => keepa o c4_a1_0
  have ac4_a1_1 := fun o => keepa o c4_a1_1
  have ac4_a1_2 := fun o => keepa o c4_a1_2
  have rP0 := P0.out.below hb'; clear P0; have P0 := Lib.hid rP0; clear rP0
  have rP1 := P1.out.below hb'; clear P1; have P1 := Lib.hid rP1; clear rP1
  have rFo12 := Fo12.out.below hb'; clear Fo12; have Fo12 := Lib.hid rFo12; clear rFo12
  have rB := below_chain B.out (by omega) hb'; clear B; have B := Lib.hid rB; clear rB
  have Fo15 := Lib.hid q4; clear q4
  have em4 : Below w2.heap.size w2 w4 := below_chain em3 (by omega) hb'
  clear hb hb'
  go_wp2_with fail
  refine hK _ _ ⟨⟨_, em4⟩, rfl⟩ ?_
  clear hK K
  repeat (first | (refine Mix.wpMix_read (by rfl) ?_; go_big_quiet_step (fail); refine wpQuiet_nil ?_) | (refine Mix.wpMix_pure (by rfl) ?_; go_big_quiet_step (fail); refine wpQuiet_nil ?_))
  refine Mix.wpMix_chg (by rfl) (fun K hK => ?_)
  go_wp2_with fail
  refine (sDerivationOfRun_c _ _ _ _ _ _ _ _ _ _ _ _ _ _ _ _ _ (by exact (Fo12.out.rd)) (by exact (Fo15.out.rd)) (by omega) (by omega) (by omega) HRR.out).mono ?_
  rintro e w5 ⟨A16, n17, c18, its19, rfl, q20, l21, hb⟩
  have hb' : Below w4.heap.size w4 w5 := (by first | (with_reducible exact hb) | (with_reducible exact up1 hb) | (with_reducible exact up2 hb) | (with_reducible exact up3 hb) | (with_reducible exact up4 hb) | (with_reducible exact below_of_drew hb) | (with_reducible exact below_of_drew (up1 hb)))
  have z5 := hb'.size
  have c5_a0_0 : w5.cell? ⟨w.heap.size, 0, none⟩ = some (.int .i64 sy0) := keepc hb' c4_a0_0
  clear c4_a0_0 ac4_a0_0
  have c5_a0_1 : w5.cell? ⟨w.heap.size, 1, none⟩ = some (.int .i64 st0) := keepc hb' c4_a0_1
  clear c4_a0_1 ac4_a0_1
  have c5_a0_2 : w5.cell? ⟨w.heap.size, 2, none⟩ = some (.slice A0 n0 c0) := keepc hb' c4_a0_2
  clear c4_a0_2 ac4_a0_2
  have c5_a1_0 : w5.cell? ⟨(w.heap.size + 1), 0, none⟩ = some (.int .i64 st1) := keepc hb' c4_a1_0
  clear c4_a1_0 ac4_a1_0
  have c5_a1_1 : w5.cell? ⟨(w.heap.size + 1), 1, none⟩ = some (.slice A1 n1 c1) := keepc hb' c4_a1_1
  clear c4_a1_1 ac4_a1_1
  have c5_a1_2 : w5.cell? ⟨(w.heap.size + 1), 2, none⟩ = some (.slice B1 m1 d1) := keepc hb' c4_a1_2
  clear c4_a1_2 ac4_a1_2
  have ac5_a0_0 := fun o => keepa o c5_a0_0
  have ac5_a0_1 := fun o => keepa o c5_a0_1
  have ac5_a0_2 := fun o => keepa o c5_a0_2
  have ac5_a1_0 := fun o => keepa o c5_a1_0
  have ac5_a1_1 := fun o => keepa o c5_a1_1
  have ac5_a1_2 := fun o => keepa o c5_a1_2
  have rP0 := P0.out.below hb'; clear P0; have P0 := Lib.hid rP0; clear rP0
  have rP1 := P1.out.below hb'; clear P1; have P1 := Lib.hid rP1; clear rP1
  have rFo12 := Fo12.out.below hb'; clear Fo12; have Fo12 := Lib.hid rFo12; clear rFo12
  have rFo15 := Fo15.out.below hb'; clear Fo15; have Fo15 := Lib.hid rFo15; clear rFo15
  have rB := below_chain B.out (by omega) hb'; clear B; have B := Lib.hid rB; clear rB
  have Fo22 := Lib.hid q20; clear q20
  obtain ⟨ln_o22, bI0_o22, hs0_o22, bm0_o22⟩ := l21
  have hI0_o22 := (fun t ht => Nat.le_trans (bI0_o22 t ht) (by omega) : ∀ t ∈ its19, t.n ≤ 1000000000); have hm0_o22 := Lib.hid bm0_o22; clear bI0_o22 bm0_o22
  have em5 : Below w2.heap.size w2 w5 := below_chain em4 (by omega) hb'
  clear hb hb'
  go_wp2_with fail
  refine hK _ _ ⟨⟨_, em5⟩, rfl⟩ ?_
  clear hK K
  repeat (first | (refine Mix.wpMix_read (by rfl) ?_; go_big_quiet_step (fail); refine wpQuiet_nil ?_) | (refine Mix.wpMix_pure (by rfl) ?_; go_big_quiet_step (fail); refine wpQuiet_nil ?_))
  (refine Mix.wpMix_nil ?_; try simp only [Exit.then])
  clear fx_c2_a0_0
  clear fx_c2_a0_1
  clear fx_c2_a0_2
  clear fx_c2_a1_0
  clear fx_c2_a1_1
  clear fx_c2_a1_2
  clear Fo12
  clear Fo15
  go_wp2_with fail
  refine (toMachine_c _ _ _ _ _ _ _ (by exact (P0.out.rd)) (by omega)).mono ?_
  rintro e w6 ⟨g023, rfl, q6, hb⟩
  have hb' : Below w5.heap.size w5 w6 := (by first | (with_reducible exact hb) | (with_reducible exact up1 hb) | (with_reducible exact up2 hb) | (with_reducible exact up3 hb) | (with_reducible exact up4 hb) | (with_reducible exact below_of_drew hb) | (with_reducible exact below_of_drew (up1 hb)))
  have z6 := hb'.size
  have c6_a0_0 : w6.cell? ⟨w.heap.size, 0, none⟩ = some (.int .i64 sy0) := keepc hb' c5_a0_0
  clear c5_a0_0 ac5_a0_0
  have c6_a0_1 : w6.cell? ⟨w.heap.size, 1, none⟩ = some (.int .i64 st0) := keepc hb' c5_a0_1
  clear c5_a0_1 ac5_a0_1
  have c6_a0_2 : w6.cell? ⟨w.heap.size, 2, none⟩ = some (.slice A0 n0 c0) := keepc hb' c5_a0_2
  clear c5_a0_2 ac5_a0_2
  have c6_a1_0 : w6.cell? ⟨(w.heap.size + 1), 0, none⟩ = some (.int .i64 st1) := keepc hb' c5_a1_0
  clear c5_a1_0 ac5_a1_0
  have c6_a1_1 : w6.cell? ⟨(w.heap.size + 1), 1, none⟩ = some (.slice A1 n1 c1) := keepc hb' c5_a1_1
  clear c5_a1_1 ac5_a1_1
  have c6_a1_2 : w6.cell? ⟨(w.heap.size + 1), 2, none⟩ = some (.slice B1 m1 d1) := keepc hb' c5_a1_2
  clear c5_a1_2 ac5_a1_2
  have ac6_a0_0 := fun o => keepa o c6_a0_0
  have ac6_a0_1 := fun o => keepa o c6_a0_1
  have ac6_a0_2 := fun o => keepa o c6_a0_2
  have ac6_a1_0 := fun o => keepa o c6_a1_0
  have ac6_a1_1 := fun o => keepa o c6_a1_1
  have ac6_a1_2 := fun o => keepa o c6_a1_2
  have rP0 := P0.out.below hb'; clear P0; have P0 := Lib.hid rP0; clear rP0
  have rP1 := P1.out.below hb'; clear P1; have P1 := Lib.hid rP1; clear rP1
  have rFo22 := Fo22.out.below hb'; clear Fo22; have Fo22 := Lib.hid rFo22; clear rFo22
  have rB := below_chain B.out (by omega) hb'; clear B; have B := Lib.hid rB; clear rB
  have Fo24 := Lib.hid q6; clear q6
  clear hb hb'
  go_wp2_with fail
  refine (toConfig_c _ _ _ _ _ _ _ _ _ _ (by exact ((P1.out.rd).alloc _)) (by omega) (by omega)).mono ?_
  rintro e w7 ⟨g025, g126, rfl, q7, hb⟩
  try simp only [World.size_alloc] at q7
  have hb' : Below w6.heap.size w6 w7 := (by first | (with_reducible exact hb) | (with_reducible exact up1 hb) | (with_reducible exact up2 hb) | (with_reducible exact up3 hb) | (with_reducible exact up4 hb) | (with_reducible exact below_of_drew hb) | (with_reducible exact below_of_drew (up1 hb)))
  have z7 := hb'.size
  have c7_a0_0 : w7.cell? ⟨w.heap.size, 0, none⟩ = some (.int .i64 sy0) := keepc hb' c6_a0_0
  clear c6_a0_0 ac6_a0_0
  have c7_a0_1 : w7.cell? ⟨w.heap.size, 1, none⟩ = some (.int .i64 st0) := keepc hb' c6_a0_1
  clear c6_a0_1 ac6_a0_1
  have c7_a0_2 : w7.cell? ⟨w.heap.size, 2, none⟩ = some (.slice A0 n0 c0) := keepc hb' c6_a0_2
  clear c6_a0_2 ac6_a0_2
  have c7_a1_0 : w7.cell? ⟨(w.heap.size + 1), 0, none⟩ = some (.int .i64 st1) := keepc hb' c6_a1_0
  clear c6_a1_0 ac6_a1_0
  have c7_a1_1 : w7.cell? ⟨(w.heap.size + 1), 1, none⟩ = some (.slice A1 n1 c1) := keepc hb' c6_a1_1
  clear c6_a1_1 ac6_a1_1
  have c7_a1_2 : w7.cell? ⟨(w.heap.size + 1), 2, none⟩ = some (.slice B1 m1 d1) := keepc hb' c6_a1_2
  clear c6_a1_2 ac6_a1_2
  have c7_o24_0 : w7.cell? ⟨w6.heap.size, 0, none⟩ = some (.int .i64 sy0) := keepc hb (by first | (simp; done) | (rw [World.cell?_alloc_past _ _ _ (by simp <;> omega)]; simp; done) | (rw [World.cell?_alloc_past _ _ _ (by simp <;> omega), World.cell?_alloc_past _ _ _ (by simp <;> omega)]; simp; done) | (rw [World.cell?_alloc_past _ _ _ (by simp <;> omega), World.cell?_alloc_past _ _ _ (by simp <;> omega), World.cell?_alloc_past _ _ _ (by simp <;> omega)]; simp; done) | (rw [World.cell?_alloc_at _ _ _ _ (by simp)]; simp; done) | (rw [World.cell?_alloc_past _ _ _ (by simp <;> omega), World.cell?_alloc_at _ _ _ _ (by simp)]; simp; done) | (rw [World.cell?_alloc_past _ _ _ (by simp <;> omega), World.cell?_alloc_past _ _ _ (by simp <;> omega), World.cell?_alloc_at _ _ _ _ (by simp)]; simp; done) | (rw [World.cell?_alloc_past _ _ _ (by simp <;> omega), World.cell?_alloc_past _ _ _ (by simp <;> omega), World.cell?_alloc_past _ _ _ (by simp <;> omega), World.cell?_alloc_at _ _ _ _ (by simp)]; simp; done))
  have hl_c7_o24_0 : w6.heap.size < w7.heap.size := World.block_lt_of_cell? w7 _ c7_o24_0
  have c7_o24_1 : w7.cell? ⟨w6.heap.size, 1, none⟩ = some (.int .i64 st0) := keepc hb (by first | (simp; done) | (rw [World.cell?_alloc_past _ _ _ (by simp <;> omega)]; simp; done) | (rw [World.cell?_alloc_past _ _ _ (by simp <;> omega), World.cell?_alloc_past _ _ _ (by simp <;> omega)]; simp; done) | (rw [World.cell?_alloc_past _ _ _ (by simp <;> omega), World.cell?_alloc_past _ _ _ (by simp <;> omega), World.cell?_alloc_past _ _ _ (by simp <;> omega)]; simp; done) | (rw [World.cell?_alloc_at _ _ _ _ (by simp)]; simp; done) | (rw [World.cell?_alloc_past _ _ _ (by simp <;> omega), World.cell?_alloc_at _ _ _ _ (by simp)]; simp; done) | (rw [World.cell?_alloc_past _ _ _ (by simp <;> omega), World.cell?_alloc_past _ _ _ (by simp <;> omega), World.cell?_alloc_at _ _ _ _ (by simp)]; simp; done) | (rw [World.cell?_alloc_past _ _ _ (by simp <;> omega), World.cell?_alloc_past _ _ _ (by simp <;> omega), World.cell?_alloc_past _ _ _ (by simp <;> omega), World.cell?_alloc_at _ _ _ _ (by simp)]; simp; done))
  have c7_o24_2 : w7.cell? ⟨w6.heap.size, 2, none⟩ = some (.slice (some ⟨g023, 0, none⟩) n0 n0) := keepc hb (by first | (simp; done) | (rw [World.cell?_alloc_past _ _ _ (by simp <;> omega)]; simp; done) | (rw [World.cell?_alloc_past _ _ _ (by simp <;> omega), World.cell?_alloc_past _ _ _ (by simp <;> omega)]; simp; done) | (rw [World.cell?_alloc_past _ _ _ (by simp <;> omega), World.cell?_alloc_past _ _ _ (by simp <;> omega), World.cell?_alloc_past _ _ _ (by simp <;> omega)]; simp; done) | (rw [World.cell?_alloc_at _ _ _ _ (by simp)]; simp; done) | (rw [World.cell?_alloc_past _ _ _ (by simp <;> omega), World.cell?_alloc_at _ _ _ _ (by simp)]; simp; done) | (rw [World.cell?_alloc_past _ _ _ (by simp <;> omega), World.cell?_alloc_past _ _ _ (by simp <;> omega), World.cell?_alloc_at _ _ _ _ (by simp)]; simp; done) | (rw [World.cell?_alloc_past _ _ _ (by simp <;> omega), World.cell?_alloc_past _ _ _ (by simp <;> omega), World.cell?_alloc_past _ _ _ (by simp <;> omega), World.cell?_alloc_at _ _ _ _ (by simp)]; simp; done))
  have ac7_a0_0 := fun o => keepa o c7_a0_0
  have ac7_a0_1 := fun o => keepa o c7_a0_1
  have ac7_a0_2 := fun o => keepa o c7_a0_2
  have ac7_a1_0 := fun o => keepa o c7_a1_0
  have ac7_a1_1 := fun o => keepa o c7_a1_1
  have ac7_a1_2 := fun o => keepa o c7_a1_2
  have ac7_o24_0 := fun o => keepa o c7_o24_0
  have ac7_o24_1 := fun o => keepa o c7_o24_1
  have ac7_o24_2 := fun o => keepa o c7_o24_2
  have rP0 := P0.out.below hb'; clear P0; have P0 := Lib.hid rP0; clear rP0
  have rP1 := P1.out.below hb'; clear P1; have P1 := Lib.hid rP1; clear rP1
  have rFo22 := Fo22.out.below hb'; clear Fo22; have Fo22 := Lib.hid rFo22; clear rFo22
  have rFo24 := Fo24.out.below hb'; clear Fo24; have Fo24 := Lib.hid rFo24; clear rFo24
  have rB := below_chain B.out (by omega) hb'; clear B; have B := Lib.hid rB; clear rB
  have Fo27 := Lib.hid q7; clear q7
  clear hb hb'
  go_wp2_with fail
  refine (iDerivationOfRun_c _ _ _ _ _ _ _ _ _ _ _ _ _ _ _ _ _ (by exact ((Fo24.out.rd).alloc _)) (by exact ((Fo27.out.rd).alloc _)) (by omega) (by omega) (by omega) HRR.out).mono ?_
  rintro e w8 ⟨A28, n29, c30, its31, rfl, q32, l33, hb⟩
  try simp only [World.size_alloc] at q32
  have hb' : Below w7.heap.size w7 w8 := (by first | (with_reducible exact hb) | (with_reducible exact up1 hb) | (with_reducible exact up2 hb) | (with_reducible exact up3 hb) | (with_reducible exact up4 hb) | (with_reducible exact below_of_drew hb) | (with_reducible exact below_of_drew (up1 hb)))
  have z8 := hb'.size
  have c8_a0_0 : w8.cell? ⟨w.heap.size, 0, none⟩ = some (.int .i64 sy0) := keepc hb' c7_a0_0
  clear c7_a0_0 ac7_a0_0
  have c8_a0_1 : w8.cell? ⟨w.heap.size, 1, none⟩ = some (.int .i64 st0) := keepc hb' c7_a0_1
  clear c7_a0_1 ac7_a0_1
  have c8_a0_2 : w8.cell? ⟨w.heap.size, 2, none⟩ = some (.slice A0 n0 c0) := keepc hb' c7_a0_2
  clear c7_a0_2 ac7_a0_2
  have c8_a1_0 : w8.cell? ⟨(w.heap.size + 1), 0, none⟩ = some (.int .i64 st1) := keepc hb' c7_a1_0
  clear c7_a1_0 ac7_a1_0
  have c8_a1_1 : w8.cell? ⟨(w.heap.size + 1), 1, none⟩ = some (.slice A1 n1 c1) := keepc hb' c7_a1_1
  clear c7_a1_1 ac7_a1_1
  have c8_a1_2 : w8.cell? ⟨(w.heap.size + 1), 2, none⟩ = some (.slice B1 m1 d1) := keepc hb' c7_a1_2
  clear c7_a1_2 ac7_a1_2
  have c8_o24_0 : w8.cell? ⟨w6.heap.size, 0, none⟩ = some (.int .i64 sy0) := keepc hb' c7_o24_0
  clear c7_o24_0 ac7_o24_0
  have c8_o24_1 : w8.cell? ⟨w6.heap.size, 1, none⟩ = some (.int .i64 st0) := keepc hb' c7_o24_1
  clear c7_o24_1 ac7_o24_1
  have c8_o24_2 : w8.cell? ⟨w6.heap.size, 2, none⟩ = some (.slice (some ⟨g023, 0, none⟩) n0 n0) := keepc hb' c7_o24_2
  clear c7_o24_2 ac7_o24_2
  have c8_o27_0 : w8.cell? ⟨w7.heap.size, 0, none⟩ = some (.int .i64 st1) := keepc hb (by first | (simp; done) | (rw [World.cell?_alloc_past _ _ _ (by simp <;> omega)]; simp; done) | (rw [World.cell?_alloc_past _ _ _ (by simp <;> omega), World.cell?_alloc_past _ _ _ (by simp <;> omega)]; simp; done) | (rw [World.cell?_alloc_past _ _ _ (by simp <;> omega), World.cell?_alloc_past _ _ _ (by simp <;> omega), World.cell?_alloc_past _ _ _ (by simp <;> omega)]; simp; done) | (rw [World.cell?_alloc_at _ _ _ _ (by simp)]; simp; done) | (rw [World.cell?_alloc_past _ _ _ (by simp <;> omega), World.cell?_alloc_at _ _ _ _ (by simp)]; simp; done) | (rw [World.cell?_alloc_past _ _ _ (by simp <;> omega), World.cell?_alloc_past _ _ _ (by simp <;> omega), World.cell?_alloc_at _ _ _ _ (by simp)]; simp; done) | (rw [World.cell?_alloc_past _ _ _ (by simp <;> omega), World.cell?_alloc_past _ _ _ (by simp <;> omega), World.cell?_alloc_past _ _ _ (by simp <;> omega), World.cell?_alloc_at _ _ _ _ (by simp)]; simp; done))
  have hl_c8_o27_0 : w7.heap.size < w8.heap.size := World.block_lt_of_cell? w8 _ c8_o27_0
  have c8_o27_1 : w8.cell? ⟨w7.heap.size, 1, none⟩ = some (.slice (some ⟨g025, 0, none⟩) n1 n1) := keepc hb (by first | (simp; done) | (rw [World.cell?_alloc_past _ _ _ (by simp <;> omega)]; simp; done) | (rw [World.cell?_alloc_past _ _ _ (by simp <;> omega), World.cell?_alloc_past _ _ _ (by simp <;> omega)]; simp; done) | (rw [World.cell?_alloc_past _ _ _ (by simp <;> omega), World.cell?_alloc_past _ _ _ (by simp <;> omega), World.cell?_alloc_past _ _ _ (by simp <;> omega)]; simp; done) | (rw [World.cell?_alloc_at _ _ _ _ (by simp)]; simp; done) | (rw [World.cell?_alloc_past _ _ _ (by simp <;> omega), World.cell?_alloc_at _ _ _ _ (by simp)]; simp; done) | (rw [World.cell?_alloc_past _ _ _ (by simp <;> omega), World.cell?_alloc_past _ _ _ (by simp <;> omega), World.cell?_alloc_at _ _ _ _ (by simp)]; simp; done) | (rw [World.cell?_alloc_past _ _ _ (by simp <;> omega), World.cell?_alloc_past _ _ _ (by simp <;> omega), World.cell?_alloc_past _ _ _ (by simp <;> omega), World.cell?_alloc_at _ _ _ _ (by simp)]; simp; done))
  have c8_o27_2 : w8.cell? ⟨w7.heap.size, 2, none⟩ = some (.slice (some ⟨g126, 0, none⟩) m1 m1) := keepc hb (by first | (simp; done) | (rw [World.cell?_alloc_past _ _ _ (by simp <;> omega)]; simp; done) | (rw [World.cell?_alloc_past _ _ _ (by simp <;> omega), World.cell?_alloc_past _ _ _ (by simp <;> omega)]; simp; done) | (rw [World.cell?_alloc_past _ _ _ (by simp <;> omega), World.cell?_alloc_past _ _ _ (by simp <;> omega), World.cell?_alloc_past _ _ _ (by simp <;> omega)]; simp; done) | (rw [World.cell?_alloc_at _ _ _ _ (by simp)]; simp; done) | (rw [World.cell?_alloc_past _ _ _ (by simp <;> omega), World.cell?_alloc_at _ _ _ _ (by simp)]; simp; done) | (rw [World.cell?_alloc_past _ _ _ (by simp <;> omega), World.cell?_alloc_past _ _ _ (by simp <;> omega), World.cell?_alloc_at _ _ _ _ (by simp)]; simp; done) | (rw [World.cell?_alloc_past _ _ _ (by simp <;> omega), World.cell?_alloc_past _ _ _ (by simp <;> omega), World.cell?_alloc_past _ _ _ (by simp <;> omega), World.cell?_alloc_at _ _ _ _ (by simp)]; simp; done))
  have ac8_a0_0 := fun o => keepa o c8_a0_0
  have ac8_a0_1 := fun o => keepa o c8_a0_1
  have ac8_a0_2 := fun o => keepa o c8_a0_2
  have ac8_a1_0 := fun o => keepa o c8_a1_0
  have ac8_a1_1 := fun o => keepa o c8_a1_1
  have ac8_a1_2 := fun o => keepa o c8_a1_2
  have ac8_o24_0 := fun o => keepa o c8_o24_0
  have ac8_o24_1 := fun o => keepa o c8_o24_1
  have ac8_o24_2 := fun o => keepa o c8_o24_2
  have ac8_o27_0 := fun o => keepa o c8_o27_0
  have ac8_o27_1 := fun o => keepa o c8_o27_1
  have ac8_o27_2 := fun o => keepa o c8_o27_2
  have rP0 := P0.out.below hb'; clear P0; have P0 := Lib.hid rP0; clear rP0
  have rP1 := P1.out.below hb'; clear P1; have P1 := Lib.hid rP1; clear rP1
  have rFo22 := Fo22.out.below hb'; clear Fo22; have Fo22 := Lib.hid rFo22; clear rFo22
  have rFo24 := Fo24.out.below hb'; clear Fo24; have Fo24 := Lib.hid rFo24; clear rFo24
  have rFo27 := Fo27.out.below hb'; clear Fo27; have Fo27 := Lib.hid rFo27; clear rFo27
  have rB := below_chain B.out (by omega) hb'; clear B; have B := Lib.hid rB; clear rB
  have Fo34 := Lib.hid q32; clear q32
  obtain ⟨ln_o34, bI0_o34, hs0_o34, bm0_o34⟩ := l33
  have hI0_o34 := (fun t ht => Nat.le_trans (bI0_o34 t ht) (by omega) : ∀ t ∈ its31, t.n ≤ 1000000000); have hm0_o34 := Lib.hid bm0_o34; clear bI0_o34 bm0_o34
  clear hb hb'
  go_wp2_with fail
  refine (eqInt64SS_t _ _ _ _ _ _ _ _ _ (by exact (Fo34.out.rd)) (by exact (Fo22.out.rd)) (by omega) hI0_o34 (hm0_o34.out.trans hm0_o22.out.symm)).mono ?_
  rintro e w9 ⟨rfl, hb⟩
  have hb' : Below w8.heap.size w8 w9 := (by first | (with_reducible exact hb) | (with_reducible exact up1 hb) | (with_reducible exact up2 hb) | (with_reducible exact up3 hb) | (with_reducible exact up4 hb) | (with_reducible exact below_of_drew hb) | (with_reducible exact below_of_drew (up1 hb)))
  have z9 := hb'.size
  have c9_a0_0 : w9.cell? ⟨w.heap.size, 0, none⟩ = some (.int .i64 sy0) := keepc hb' c8_a0_0
  clear c8_a0_0 ac8_a0_0
  have c9_a0_1 : w9.cell? ⟨w.heap.size, 1, none⟩ = some (.int .i64 st0) := keepc hb' c8_a0_1
  clear c8_a0_1 ac8_a0_1
  have c9_a0_2 : w9.cell? ⟨w.heap.size, 2, none⟩ = some (.slice A0 n0 c0) := keepc hb' c8_a0_2
  clear c8_a0_2 ac8_a0_2
  have c9_a1_0 : w9.cell? ⟨(w.heap.size + 1), 0, none⟩ = some (.int .i64 st1) := keepc hb' c8_a1_0
  clear c8_a1_0 ac8_a1_0
  have c9_a1_1 : w9.cell? ⟨(w.heap.size + 1), 1, none⟩ = some (.slice A1 n1 c1) := keepc hb' c8_a1_1
  clear c8_a1_1 ac8_a1_1
  have c9_a1_2 : w9.cell? ⟨(w.heap.size + 1), 2, none⟩ = some (.slice B1 m1 d1) := keepc hb' c8_a1_2
  clear c8_a1_2 ac8_a1_2
  have c9_o24_0 : w9.cell? ⟨w6.heap.size, 0, none⟩ = some (.int .i64 sy0) := keepc hb' c8_o24_0
  clear c8_o24_0 ac8_o24_0
  have c9_o24_1 : w9.cell? ⟨w6.heap.size, 1, none⟩ = some (.int .i64 st0) := keepc hb' c8_o24_1
  clear c8_o24_1 ac8_o24_1
  have c9_o24_2 : w9.cell? ⟨w6.heap.size, 2, none⟩ = some (.slice (some ⟨g023, 0, none⟩) n0 n0) := keepc hb' c8_o24_2
  clear c8_o24_2 ac8_o24_2
  have c9_o27_0 : w9.cell? ⟨w7.heap.size, 0, none⟩ = some (.int .i64 st1) := keepc hb' c8_o27_0
  clear c8_o27_0 ac8_o27_0
  have c9_o27_1 : w9.cell? ⟨w7.heap.size, 1, none⟩ = some (.slice (some ⟨g025, 0, none⟩) n1 n1) := keepc hb' c8_o27_1
  clear c8_o27_1 ac8_o27_1
  have c9_o27_2 : w9.cell? ⟨w7.heap.size, 2, none⟩ = some (.slice (some ⟨g126, 0, none⟩) m1 m1) := keepc hb' c8_o27_2
  clear c8_o27_2 ac8_o27_2
  have ac9_a0_0 := fun o => keepa o c9_a0_0
  have ac9_a0_1 := fun o => keepa o c9_a0_1
  have ac9_a0_2 := fun o => keepa o c9_a0_2
  have ac9_a1_0 := fun o => keepa o c9_a1_0
  have ac9_a1_1 := fun o => keepa o c9_a1_1
  have ac9_a1_2 := fun o => keepa o c9_a1_2
  have ac9_o24_0 := fun o => keepa o c9_o24_0
  have ac9_o24_1 := fun o => keepa o c9_o24_1
  have ac9_o24_2 := fun o => keepa o c9_o24_2
  have ac9_o27_0 := fun o => keepa o c9_o27_0
  have ac9_o27_1 := fun o => keepa o c9_o27_1
  have ac9_o27_2 := fun o => keepa o c9_o27_2
  have rP0 := P0.out.below hb'; clear P0; have P0 := Lib.hid rP0; clear rP0
  have rP1 := P1.out.below hb'; clear P1; have P1 := Lib.hid rP1; clear rP1
  have rFo22 := Fo22.out.below hb'; clear Fo22; have Fo22 := Lib.hid rFo22; clear rFo22
  have rFo24 := Fo24.out.below hb'; clear Fo24; have Fo24 := Lib.hid rFo24; clear rFo24
  have rFo27 := Fo27.out.below hb'; clear Fo27; have Fo27 := Lib.hid rFo27; clear rFo27
  have rFo34 := Fo34.out.below hb'; clear Fo34; have Fo34 := Lib.hid rFo34; clear rFo34
  have rB := below_chain B.out (by omega) hb'; clear B; have B := Lib.hid rB; clear rB
  clear hb hb'
  go_wp2_with fail
  have fx_c9_a0_0 := Ext.cell c9_a0_0
  have fx_c9_a0_1 := Ext.cell c9_a0_1
  have fx_c9_a0_2 := Ext.cell c9_a0_2
  have fx_c9_a1_0 := Ext.cell c9_a1_0
  have fx_c9_a1_1 := Ext.cell c9_a1_1
  have fx_c9_a1_2 := Ext.cell c9_a1_2
  have fx_c9_o24_0 := Ext.cell c9_o24_0
  have fx_c9_o24_1 := Ext.cell c9_o24_1
  have fx_c9_o24_2 := Ext.cell c9_o24_2
  have fx_c9_o27_0 := Ext.cell c9_o27_0
  have fx_c9_o27_1 := Ext.cell c9_o27_1
  have fx_c9_o27_2 := Ext.cell c9_o27_2
  refine Mix.wp_region_mix [3, 3, 1, 1, 0] (fun w' => ∃ x : Ext w9, w' = x.w) (by kernel_rfl) (by kernel_rfl) (InExt.drew _) ?_
  repeat (first | (refine Mix.wpMix_read (by rfl) ?_; go_big_quiet_step (fail); refine wpQuiet_nil ?_) | (refine Mix.wpMix_pure (by rfl) ?_; go_big_quiet_step (fail); refine wpQuiet_nil ?_))
  refine Mix.wpMix_chg (by rfl) (fun K hK => ?_)
  go_wp2_with fail
  refine (toMachine_c _ _ _ _ _ _ _ (by exact (P0.out.rd)) (by omega)).mono ?_
  rintro e w10 ⟨g035, rfl, q10, hb⟩
  have hb' : Below w9.heap.size w9 w10 := (by first | (with_reducible exact hb) | (with_reducible exact up1 hb) | (with_reducible exact up2 hb) | (with_reducible exact up3 hb) | (with_reducible exact up4 hb) | (with_reducible exact below_of_drew hb) | (with_reducible exact below_of_drew (up1 hb)))
  have z10 := hb'.size
  have c10_a0_0 : w10.cell? ⟨w.heap.size, 0, none⟩ = some (.int .i64 sy0) := keepc hb' c9_a0_0
  clear c9_a0_0 ac9_a0_0
  have c10_a0_1 : w10.cell? ⟨w.heap.size, 1, none⟩ = some (.int .i64 st0) := keepc hb' c9_a0_1
  clear c9_a0_1 ac9_a0_1
  have c10_a0_2 : w10.cell? ⟨w.heap.size, 2, none⟩ = some (.slice A0 n0 c0) := keepc hb' c9_a0_2
  clear c9_a0_2 ac9_a0_2
  have c10_a1_0 : w10.cell? ⟨(w.heap.size + 1), 0, none⟩ = some (.int .i64 st1) := keepc hb' c9_a1_0
  clear c9_a1_0 ac9_a1_0
  have c10_a1_1 : w10.cell? ⟨(w.heap.size + 1), 1, none⟩ = some (.slice A1 n1 c1) := keepc hb' c9_a1_1
  clear c9_a1_1 ac9_a1_1
  have c10_a1_2 : w10.cell? ⟨(w.heap.size + 1), 2, none⟩ = some (.slice B1 m1 d1) := keepc hb' c9_a1_2
  clear c9_a1_2 ac9_a1_2
  have c10_o24_0 : w10.cell? ⟨w6.heap.size, 0, none⟩ = some (.int .i64 sy0) := keepc hb' c9_o24_0
  clear c9_o24_0 ac9_o24_0
  have c10_o24_1 : w10.cell? ⟨w6.heap.size, 1, none⟩ = some (.int .i64 st0) := keepc hb' c9_o24_1
  clear c9_o24_1 ac9_o24_1
  have c10_o24_2 : w10.cell? ⟨w6.heap.size, 2, none⟩ = some (.slice (some ⟨g023, 0, none⟩) n0 n0) := keepc hb' c9_o24_2
  clear c9_o24_2 ac9_o24_2
  have c10_o27_0 : w10.cell? ⟨w7.heap.size, 0, none⟩ = some (.int .i64 st1) := keepc hb' c9_o27_0
  clear c9_o27_0 ac9_o27_0
  have c10_o27_1 : w10.cell? ⟨w7.heap.size, 1, none⟩ = some (.slice (some ⟨g025, 0, none⟩) n1 n1) := keepc hb' c9_o27_1
  clear c9_o27_1 ac9_o27_1
  have c10_o27_2 : w10.cell? ⟨w7.heap.size, 2, none⟩ = some (.slice (some ⟨g126, 0, none⟩) m1 m1) := keepc hb' c9_o27_2
  clear c9_o27_2 ac9_o27_2
  have ac10_a0_0 := fun o => keepa o c10_a0_0
  have ac10_a0_1 := fun o => keepa o c10_a0_1
  have ac10_a0_2 := fun o => keepa o c10_a0_2
  have ac10_a1_0 := fun o => keepa o c10_a1_0
  have ac10_a1_1 := fun o => keepa o c10_a1_1
  have ac10_a1_2 := fun o => keepa o c10_a1_2
  have ac10_o24_0 := fun o => keepa o c10_o24_0
  have ac10_o24_1 := fun o => keepa o c10_o24_1
  have ac10_o24_2 := fun o => keepa o c10_o24_2
  have ac10_o27_0 := fun o => keepa o c10_o27_0
  have ac10_o27_1 := fun o => keepa o c10_o27_1
  have ac10_o27_2 := fun o => keepa o c10_o27_2
  have rP0 := P0.out.below hb'; clear P0; have P0 := Lib.hid rP0; clear rP0
  have rP1 := P1.out.below hb'; clear P1; have P1 := Lib.hid rP1; clear rP1
  have rFo22 := Fo22.out.below hb'; clear Fo22; have Fo22 := Lib.hid rFo22; clear rFo22
  have rFo24 := Fo24.out.below hb'; clear Fo24; have Fo24 := Lib.hid rFo24; clear rFo24
  have rFo27 := Fo27.out.below hb'; clear Fo27; have Fo27 := Lib.hid rFo27; clear rFo27
  have rFo34 := Fo34.out.below hb'; clear Fo34; have Fo34 := Lib.hid rFo34; clear rFo34
  have rB := below_chain B.out (by omega) hb'; clear B; have B := Lib.hid rB; clear rB
  have Fo36 := Lib.hid q10; clear q10
  have em10 : Below w9.heap.size w9 w10 := hb'
  clear hb hb'
  go_wp2_with fail
  refine hK _ _ ⟨⟨_, em10⟩, rfl⟩ ?_
  clear hK K
  refine Mix.wpMix_chg (by rfl) (fun K hK => ?_)
  go_wp2_with fail
  refine (eqMachine_t _ _ _ _ _ _ _ _ _ _ (by exact (Fo24.out.rd)) (by exact (Fo36.out.rd)) (by omega)).mono ?_
  rintro e w11 ⟨rfl, hb⟩
  have hb' : Below w10.heap.size w10 w11 := (by first | (with_reducible exact hb) | (with_reducible exact up1 hb) | (with_reducible exact up2 hb) | (with_reducible exact up3 hb) | (with_reducible exact up4 hb) | (with_reducible exact below_of_drew hb) | (with_reducible exact below_of_drew (up1 hb)))
  have z11 := hb'.size
  have c11_a0_0 : w11.cell? ⟨w.heap.size, 0, none⟩ = some (.int .i64 sy0) := keepc hb' c10_a0_0
  clear c10_a0_0 ac10_a0_0
  have c11_a0_1 : w11.cell? ⟨w.heap.size, 1, none⟩ = some (.int .i64 st0) := keepc hb' c10_a0_1
  clear c10_a0_1 ac10_a0_1
  have c11_a0_2 : w11.cell? ⟨w.heap.size, 2, none⟩ = some (.slice A0 n0 c0) := keepc hb' c10_a0_2
  clear c10_a0_2 ac10_a0_2
  have c11_a1_0 : w11.cell? ⟨(w.heap.size + 1), 0, none⟩ = some (.int .i64 st1) := keepc hb' c10_a1_0
  clear c10_a1_0 ac10_a1_0
  have c11_a1_1 : w11.cell? ⟨(w.heap.size + 1), 1, none⟩ = some (.slice A1 n1 c1) := keepc hb' c10_a1_1
  clear c10_a1_1 ac10_a1_1
  have c11_a1_2 : w11.cell? ⟨(w.heap.size + 1), 2, none⟩ = some (.slice B1 m1 d1) := keepc hb' c10_a1_2
  clear c10_a1_2 ac10_a1_2
  have c11_o24_0 : w11.cell? ⟨w6.heap.size, 0, none⟩ = some (.int .i64 sy0) := keepc hb' c10_o24_0
  clear c10_o24_0 ac10_o24_0
  have c11_o24_1 : w11.cell? ⟨w6.heap.size, 1, none⟩ = some (.int .i64 st0) := keepc hb' c10_o24_1
  clear c10_o24_1 ac10_o24_1
  have c11_o24_2 : w11.cell? ⟨w6.heap.size, 2, none⟩ = some (.slice (some ⟨g023, 0, none⟩) n0 n0) := keepc hb' c10_o24_2
  clear c10_o24_2 ac10_o24_2
  have c11_o27_0 : w11.cell? ⟨w7.heap.size, 0, none⟩ = some (.int .i64 st1) := keepc hb' c10_o27_0
  clear c10_o27_0 ac10_o27_0
  have c11_o27_1 : w11.cell? ⟨w7.heap.size, 1, none⟩ = some (.slice (some ⟨g025, 0, none⟩) n1 n1) := keepc hb' c10_o27_1
  clear c10_o27_1 ac10_o27_1
  have c11_o27_2 : w11.cell? ⟨w7.heap.size, 2, none⟩ = some (.slice (some ⟨g126, 0, none⟩) m1 m1) := keepc hb' c10_o27_2
  clear c10_o27_2 ac10_o27_2
  have ac11_a0_0 := fun o => keepa o c11_a0_0
  have ac11_a0_1 := fun o => keepa o c11_a0_1
  have ac11_a0_2 := fun o => keepa o c11_a0_2
  have ac11_a1_0 := fun o => keepa o c11_a1_0
  have ac11_a1_1 := fun o => keepa o c11_a1_1
  have ac11_a1_2 := fun o => keepa o c11_a1_2
  have ac11_o24_0 := fun o => keepa o c11_o24_0
  have ac11_o24_1 := fun o => keepa o c11_o24_1
  have ac11_o24_2 := fun o => keepa o c11_o24_2
  have ac11_o27_0 := fun o => keepa o c11_o27_0
  have ac11_o27_1 := fun o => keepa o c11_o27_1
  have ac11_o27_2 := fun o => keepa o c11_o27_2
  have rP0 := P0.out.below hb'; clear P0; have P0 := Lib.hid rP0; clear rP0
  have rP1 := P1.out.below hb'; clear P1; have P1 := Lib.hid rP1; clear rP1
  have rFo22 := Fo22.out.below hb'; clear Fo22; have Fo22 := Lib.hid rFo22; clear rFo22
  have rFo24 := Fo24.out.below hb'; clear Fo24; have Fo24 := Lib.hid rFo24; clear rFo24
  have rFo27 := Fo27.out.below hb'; clear Fo27; have Fo27 := Lib.hid rFo27; clear rFo27
  have rFo34 := Fo34.out.below hb'; clear Fo34; have Fo34 := Lib.hid rFo34; clear rFo34
  have rFo36 := Fo36.out.below hb'; clear Fo36; have Fo36 := Lib.hid rFo36; clear rFo36
  have rB := below_chain B.out (by omega) hb'; clear B; have B := Lib.hid rB; clear rB
  have em11 : Below w9.heap.size w9 w11 := below_chain em10 (by omega) hb'
  clear hb hb'
  go_wp2_with fail
  refine hK _ _ ⟨⟨_, em11⟩, rfl⟩ ?_
  clear hK K
  repeat (first | (refine Mix.wpMix_read (by rfl) ?_; go_big_quiet_step (fail); refine wpQuiet_nil ?_) | (refine Mix.wpMix_pure (by rfl) ?_; go_big_quiet_step (fail); refine wpQuiet_nil ?_))
  (refine Mix.wpMix_nil ?_; try simp only [Exit.then])
  clear fx_c9_a0_0
  clear fx_c9_a0_1
  clear fx_c9_a0_2
  clear fx_c9_a1_0
  clear fx_c9_a1_1
  clear fx_c9_a1_2
  clear fx_c9_o24_0
  clear fx_c9_o24_1
  clear fx_c9_o24_2
  clear fx_c9_o27_0
  clear fx_c9_o27_1
  clear fx_c9_o27_2
  clear Fo36
  go_wp2_with fail
  have fx_c11_a0_0 := Ext.cell c11_a0_0
  have fx_c11_a0_1 := Ext.cell c11_a0_1
  have fx_c11_a0_2 := Ext.cell c11_a0_2
  have fx_c11_a1_0 := Ext.cell c11_a1_0
  have fx_c11_a1_1 := Ext.cell c11_a1_1
  have fx_c11_a1_2 := Ext.cell c11_a1_2
  have fx_c11_o24_0 := Ext.cell c11_o24_0
  have fx_c11_o24_1 := Ext.cell c11_o24_1
  have fx_c11_o24_2 := Ext.cell c11_o24_2
  have fx_c11_o27_0 := Ext.cell c11_o27_0
  have fx_c11_o27_1 := Ext.cell c11_o27_1
  have fx_c11_o27_2 := Ext.cell c11_o27_2
  refine Mix.wp_region_mix [3, 3, 1, 1, 0] (fun w' => ∃ x : Ext w11, w' = x.w) (by kernel_rfl) (by kernel_rfl) (InExt.drew _) ?_
  repeat (first | (refine Mix.wpMix_read (by rfl) ?_; go_big_quiet_step (fail); refine wpQuiet_nil ?_) | (refine Mix.wpMix_pure (by rfl) ?_; go_big_quiet_step (fail); refine wpQuiet_nil ?_))
  refine Mix.wpMix_chg (by rfl) (fun K hK => ?_)
  go_wp2_with fail
  refine (toConfig_c _ _ _ _ _ _ _ _ _ _ (by exact (P1.out.rd)) (by omega) (by omega)).mono ?_
  rintro e w12 ⟨g037, g138, rfl, q12, hb⟩
  have hb' : Below w11.heap.size w11 w12 := (by first | (with_reducible exact hb) | (with_reducible exact up1 hb) | (with_reducible exact up2 hb) | (with_reducible exact up3 hb) | (with_reducible exact up4 hb) | (with_reducible exact below_of_drew hb) | (with_reducible exact below_of_drew (up1 hb)))
  have z12 := hb'.size
  have c12_a0_0 : w12.cell? ⟨w.heap.size, 0, none⟩ = some (.int .i64 sy0) := keepc hb' c11_a0_0
  clear c11_a0_0 ac11_a0_0
  have c12_a0_1 : w12.cell? ⟨w.heap.size, 1, none⟩ = some (.int .i64 st0) := keepc hb' c11_a0_1
  clear c11_a0_1 ac11_a0_1
  have c12_a0_2 : w12.cell? ⟨w.heap.size, 2, none⟩ = some (.slice A0 n0 c0) := keepc hb' c11_a0_2
  clear c11_a0_2 ac11_a0_2
  have c12_a1_0 : w12.cell? ⟨(w.heap.size + 1), 0, none⟩ = some (.int .i64 st1) := keepc hb' c11_a1_0
  clear c11_a1_0 ac11_a1_0
  have c12_a1_1 : w12.cell? ⟨(w.heap.size + 1), 1, none⟩ = some (.slice A1 n1 c1) := keepc hb' c11_a1_1
  clear c11_a1_1 ac11_a1_1
  have c12_a1_2 : w12.cell? ⟨(w.heap.size + 1), 2, none⟩ = some (.slice B1 m1 d1) := keepc hb' c11_a1_2
  clear c11_a1_2 ac11_a1_2
  have c12_o24_0 : w12.cell? ⟨w6.heap.size, 0, none⟩ = some (.int .i64 sy0) := keepc hb' c11_o24_0
  clear c11_o24_0 ac11_o24_0
  have c12_o24_1 : w12.cell? ⟨w6.heap.size, 1, none⟩ = some (.int .i64 st0) := keepc hb' c11_o24_1
  clear c11_o24_1 ac11_o24_1
  have c12_o24_2 : w12.cell? ⟨w6.heap.size, 2, none⟩ = some (.slice (some ⟨g023, 0, none⟩) n0 n0) := keepc hb' c11_o24_2
  clear c11_o24_2 ac11_o24_2
  have c12_o27_0 : w12.cell? ⟨w7.heap.size, 0, none⟩ = some (.int .i64 st1) := keepc hb' c11_o27_0
  clear c11_o27_0 ac11_o27_0
  have c12_o27_1 : w12.cell? ⟨w7.heap.size, 1, none⟩ = some (.slice (some ⟨g025, 0, none⟩) n1 n1) := keepc hb' c11_o27_1
  clear c11_o27_1 ac11_o27_1
  have c12_o27_2 : w12.cell? ⟨w7.heap.size, 2, none⟩ = some (.slice (some ⟨g126, 0, none⟩) m1 m1) := keepc hb' c11_o27_2
  clear c11_o27_2 ac11_o27_2
  have ac12_a0_0 := fun o => keepa o c12_a0_0
  have ac12_a0_1 := fun o => keepa o c12_a0_1
  have ac12_a0_2 := fun o => keepa o c12_a0_2
  have ac12_a1_0 := fun o => keepa o c12_a1_0
  have ac12_a1_1 := fun o => keepa o c12_a1_1
  have ac12_a1_2 := fun o => keepa o c12_a1_2
  have ac12_o24_0 := fun o => keepa o c12_o24_0
  have ac12_o24_1 := fun o => keepa o c12_o24_1
  have ac12_o24_2 := fun o => keepa o c12_o24_2
  have ac12_o27_0 := fun o => keepa o c12_o27_0
  have ac12_o27_1 := fun o => keepa o c12_o27_1
  have ac12_o27_2 := fun o => keepa o c12_o27_2
  have rP0 := P0.out.below hb'; clear P0; have P0 := Lib.hid rP0; clear rP0
  have rP1 := P1.out.below hb'; clear P1; have P1 := Lib.hid rP1; clear rP1
  have rFo22 := Fo22.out.below hb'; clear Fo22; have Fo22 := Lib.hid rFo22; clear rFo22
  have rFo24 := Fo24.out.below hb'; clear Fo24; have Fo24 := Lib.hid rFo24; clear rFo24
  have rFo27 := Fo27.out.below hb'; clear Fo27; have Fo27 := Lib.hid rFo27; clear rFo27
  have rFo34 := Fo34.out.below hb'; clear Fo34; have Fo34 := Lib.hid rFo34; clear rFo34
  have rB := below_chain B.out (by omega) hb'; clear B; have B := Lib.hid rB; clear rB
  have Fo39 := Lib.hid q12; clear q12
  have em12 : Below w11.heap.size w11 w12 := hb'
  clear hb hb'
  go_wp2_with fail
  refine hK _ _ ⟨⟨_, em12⟩, rfl⟩ ?_
  clear hK K
  refine Mix.wpMix_chg (by rfl) (fun K hK => ?_)
  go_wp2_with fail
  refine (eqConfig_t _ _ _ _ _ _ _ _ _ _ _ _ _ _ _ _ (by exact (Fo27.out.rd)) (by exact (Fo39.out.rd)) (by omega) (by omega)).mono ?_
  rintro e w13 ⟨rfl, hb⟩
  have hb' : Below w12.heap.size w12 w13 := (by first | (with_reducible exact hb) | (with_reducible exact up1 hb) | (with_reducible exact up2 hb) | (with_reducible exact up3 hb) | (with_reducible exact up4 hb) | (with_reducible exact below_of_drew hb) | (with_reducible exact below_of_drew (up1 hb)))
  have z13 := hb'.size
  have c13_a0_0 : w13.cell? ⟨w.heap.size, 0, none⟩ = some (.int .i64 sy0) := keepc hb' c12_a0_0
  clear c12_a0_0 ac12_a0_0
  have c13_a0_1 : w13.cell? ⟨w.heap.size, 1, none⟩ = some (.int .i64 st0) := keepc hb' c12_a0_1
  clear c12_a0_1 ac12_a0_1
  have c13_a0_2 : w13.cell? ⟨w.heap.size, 2, none⟩ = some (.slice A0 n0 c0) := keepc hb' c12_a0_2
  clear c12_a0_2 ac12_a0_2
  have c13_a1_0 : w13.cell? ⟨(w.heap.size + 1), 0, none⟩ = some (.int .i64 st1) := keepc hb' c12_a1_0
  clear c12_a1_0 ac12_a1_0
  have c13_a1_1 : w13.cell? ⟨(w.heap.size + 1), 1, none⟩ = some (.slice A1 n1 c1) := keepc hb' c12_a1_1
  clear c12_a1_1 ac12_a1_1
  have c13_a1_2 : w13.cell? ⟨(w.heap.size + 1), 2, none⟩ = some (.slice B1 m1 d1) := keepc hb' c12_a1_2
  clear c12_a1_2 ac12_a1_2
  have c13_o24_0 : w13.cell? ⟨w6.heap.size, 0, none⟩ = some (.int .i64 sy0) := keepc hb' c12_o24_0
  clear c12_o24_0 ac12_o24_0
  have c13_o24_1 : w13.cell? ⟨w6.heap.size, 1, none⟩ = some (.int .i64 st0) := keepc hb' c12_o24_1
  clear c12_o24_1 ac12_o24_1
  have c13_o24_2 : w13.cell? ⟨w6.heap.size, 2, none⟩ = some (.slice (some ⟨g023, 0, none⟩) n0 n0) := keepc hb' c12_o24_2
  clear c12_o24_2 ac12_o24_2
  have c13_o27_0 : w13.cell? ⟨w7.heap.size, 0, none⟩ = some (.int .i64 st1) := keepc hb' c12_o27_0
  clear c12_o27_0 ac12_o27_0
  have c13_o27_1 : w13.cell? ⟨w7.heap.size, 1, none⟩ = some (.slice (some ⟨g025, 0, none⟩) n1 n1) := keepc hb' c12_o27_1
  clear c12_o27_1 ac12_o27_1
  have c13_o27_2 : w13.cell? ⟨w7.heap.size, 2, none⟩ = some (.slice (some ⟨g126, 0, none⟩) m1 m1) := keepc hb' c12_o27_2
  clear c12_o27_2 ac12_o27_2
  have ac13_a0_0 := fun o => keepa o c13_a0_0
  have ac13_a0_1 := fun o => keepa o c13_a0_1
  have ac13_a0_2 := fun o => keepa o c13_a0_2
  have ac13_a1_0 := fun o => keepa o c13_a1_0
  have ac13_a1_1 := fun o => keepa o c13_a1_1
  have ac13_a1_2 := fun o => keepa o c13_a1_2
  have ac13_o24_0 := fun o => keepa o c13_o24_0
  have ac13_o24_1 := fun o => keepa o c13_o24_1
  have ac13_o24_2 := fun o => keepa o c13_o24_2
  have ac13_o27_0 := fun o => keepa o c13_o27_0
  have ac13_o27_1 := fun o => keepa o c13_o27_1
  have ac13_o27_2 := fun o => keepa o c13_o27_2
  have rP0 := P0.out.below hb'; clear P0; have P0 := Lib.hid rP0; clear rP0
  have rP1 := P1.out.below hb'; clear P1; have P1 := Lib.hid rP1; clear rP1
  have rFo22 := Fo22.out.below hb'; clear Fo22; have Fo22 := Lib.hid rFo22; clear rFo22
  have rFo24 := Fo24.out.below hb'; clear Fo24; have Fo24 := Lib.hid rFo24; clear rFo24
  have rFo27 := Fo27.out.below hb'; clear Fo27; have Fo27 := Lib.hid rFo27; clear rFo27
  have rFo34 := Fo34.out.below hb'; clear Fo34; have Fo34 := Lib.hid rFo34; clear rFo34
  have rFo39 := Fo39.out.below hb'; clear Fo39; have Fo39 := Lib.hid rFo39; clear rFo39
  have rB := below_chain B.out (by omega) hb'; clear B; have B := Lib.hid rB; clear rB
  have em13 : Below w11.heap.size w11 w13 := below_chain em12 (by omega) hb'
  clear hb hb'
  go_wp2_with fail
  refine hK _ _ ⟨⟨_, em13⟩, rfl⟩ ?_
  clear hK K
  repeat (first | (refine Mix.wpMix_read (by rfl) ?_; go_big_quiet_step (fail); refine wpQuiet_nil ?_) | (refine Mix.wpMix_pure (by rfl) ?_; go_big_quiet_step (fail); refine wpQuiet_nil ?_))
  (refine Mix.wpMix_nil ?_; try simp only [Exit.then])
  clear fx_c11_a0_0
  clear fx_c11_a0_1
  clear fx_c11_a0_2
  clear fx_c11_a1_0
  clear fx_c11_a1_1
  clear fx_c11_a1_2
  clear fx_c11_o24_0
  clear fx_c11_o24_1
  clear fx_c11_o24_2
  clear fx_c11_o27_0
  clear fx_c11_o27_1
  clear fx_c11_o27_2
  clear Fo39
  go_wp2_with fail
  refine (markMachine_c _ _ _ _ _ _ _ _ _ _ (by exact (Fo24.out)) (by omega) (by omega) (by omega)).mono ?_
  rintro e w14 ⟨rfl, q14, hk⟩
  have hk' : KeepR w5.heap.size w6.heap.size w13 w14 := (by first | (with_reducible exact hk) | (with_reducible exact hk.up1) | (with_reducible exact hk.up1.up1))
  have z14 := hk'.size
  have c14_a0_0 : w14.cell? ⟨w.heap.size, 0, none⟩ = some (.int .i64 sy0) := hk'.cell (by simp <;> omega) c13_a0_0
  clear c13_a0_0 ac13_a0_0
  have c14_a0_1 : w14.cell? ⟨w.heap.size, 1, none⟩ = some (.int .i64 st0) := hk'.cell (by simp <;> omega) c13_a0_1
  clear c13_a0_1 ac13_a0_1
  have c14_a0_2 : w14.cell? ⟨w.heap.size, 2, none⟩ = some (.slice A0 n0 c0) := hk'.cell (by simp <;> omega) c13_a0_2
  clear c13_a0_2 ac13_a0_2
  have c14_a1_0 : w14.cell? ⟨(w.heap.size + 1), 0, none⟩ = some (.int .i64 st1) := hk'.cell (by simp <;> omega) c13_a1_0
  clear c13_a1_0 ac13_a1_0
  have c14_a1_1 : w14.cell? ⟨(w.heap.size + 1), 1, none⟩ = some (.slice A1 n1 c1) := hk'.cell (by simp <;> omega) c13_a1_1
  clear c13_a1_1 ac13_a1_1
  have c14_a1_2 : w14.cell? ⟨(w.heap.size + 1), 2, none⟩ = some (.slice B1 m1 d1) := hk'.cell (by simp <;> omega) c13_a1_2
  clear c13_a1_2 ac13_a1_2
  have c14_o24_0 : w14.cell? ⟨w6.heap.size, 0, none⟩ = some (.int .i64 sy0) := hk'.cell (by simp <;> omega) c13_o24_0
  clear c13_o24_0 ac13_o24_0
  have c14_o24_1 : w14.cell? ⟨w6.heap.size, 1, none⟩ = some (.int .i64 st0) := hk'.cell (by simp <;> omega) c13_o24_1
  clear c13_o24_1 ac13_o24_1
  have c14_o24_2 : w14.cell? ⟨w6.heap.size, 2, none⟩ = some (.slice (some ⟨g023, 0, none⟩) n0 n0) := hk'.cell (by simp <;> omega) c13_o24_2
  clear c13_o24_2 ac13_o24_2
  have c14_o27_0 : w14.cell? ⟨w7.heap.size, 0, none⟩ = some (.int .i64 st1) := hk'.cell (by simp <;> omega) c13_o27_0
  clear c13_o27_0 ac13_o27_0
  have c14_o27_1 : w14.cell? ⟨w7.heap.size, 1, none⟩ = some (.slice (some ⟨g025, 0, none⟩) n1 n1) := hk'.cell (by simp <;> omega) c13_o27_1
  clear c13_o27_1 ac13_o27_1
  have c14_o27_2 : w14.cell? ⟨w7.heap.size, 2, none⟩ = some (.slice (some ⟨g126, 0, none⟩) m1 m1) := hk'.cell (by simp <;> omega) c13_o27_2
  clear c13_o27_2 ac13_o27_2
  have ac14_a0_0 := fun o => keepa o c14_a0_0
  have ac14_a0_1 := fun o => keepa o c14_a0_1
  have ac14_a0_2 := fun o => keepa o c14_a0_2
  have ac14_a1_0 := fun o => keepa o c14_a1_0
  have ac14_a1_1 := fun o => keepa o c14_a1_1
  have ac14_a1_2 := fun o => keepa o c14_a1_2
  have ac14_o24_0 := fun o => keepa o c14_o24_0
  have ac14_o24_1 := fun o => keepa o c14_o24_1
  have ac14_o24_2 := fun o => keepa o c14_o24_2
  have ac14_o27_0 := fun o => keepa o c14_o27_0
  have ac14_o27_1 := fun o => keepa o c14_o27_1
  have ac14_o27_2 := fun o => keepa o c14_o27_2
  have rP0 := P0.out.keep hk' (by omega); clear P0; have P0 := Lib.hid rP0; clear rP0
  have rP1 := P1.out.keep hk' (by omega); clear P1; have P1 := Lib.hid rP1; clear rP1
  have rFo22 := Fo22.out.keep hk' (by omega); clear Fo22; have Fo22 := Lib.hid rFo22; clear rFo22
  have rFo24 := q14; clear Fo24; have Fo24 := Lib.hid rFo24; clear rFo24 q14
  have rFo27 := Fo27.out.keep hk' (by omega); clear Fo27; have Fo27 := Lib.hid rFo27; clear rFo27
  have rFo34 := Fo34.out.keep hk' (by omega); clear Fo34; have Fo34 := Lib.hid rFo34; clear rFo34
  have rB := B.out.trans (hk'.below (B := w.heap.size) (by omega) (by omega)); clear B; have B := Lib.hid rB; clear rB
  clear hk hk'
  go_wp2_with fail
  refine (markConfig_c _ _ _ _ _ _ _ _ _ _ _ _ _ (by exact (Fo27.out)) (by omega) (by omega) (by first | omega | (simp; omega)) (by omega) (by omega)).mono ?_
  rintro e w15 ⟨rfl, q15, hk⟩
  have hk' : KeepR (w6.heap.size + 1) w7.heap.size w14 w15 := (by first | (with_reducible exact hk) | (with_reducible exact hk.up1) | (with_reducible exact hk.up1.up1))
  have z15 := hk'.size
  have c15_a0_0 : w15.cell? ⟨w.heap.size, 0, none⟩ = some (.int .i64 sy0) := hk'.cell (by simp <;> omega) c14_a0_0
  clear c14_a0_0 ac14_a0_0
  have c15_a0_1 : w15.cell? ⟨w.heap.size, 1, none⟩ = some (.int .i64 st0) := hk'.cell (by simp <;> omega) c14_a0_1
  clear c14_a0_1 ac14_a0_1
  have c15_a0_2 : w15.cell? ⟨w.heap.size, 2, none⟩ = some (.slice A0 n0 c0) := hk'.cell (by simp <;> omega) c14_a0_2
  clear c14_a0_2 ac14_a0_2
  have c15_a1_0 : w15.cell? ⟨(w.heap.size + 1), 0, none⟩ = some (.int .i64 st1) := hk'.cell (by simp <;> omega) c14_a1_0
  clear c14_a1_0 ac14_a1_0
  have c15_a1_1 : w15.cell? ⟨(w.heap.size + 1), 1, none⟩ = some (.slice A1 n1 c1) := hk'.cell (by simp <;> omega) c14_a1_1
  clear c14_a1_1 ac14_a1_1
  have c15_a1_2 : w15.cell? ⟨(w.heap.size + 1), 2, none⟩ = some (.slice B1 m1 d1) := hk'.cell (by simp <;> omega) c14_a1_2
  clear c14_a1_2 ac14_a1_2
  have c15_o24_0 : w15.cell? ⟨w6.heap.size, 0, none⟩ = some (.int .i64 sy0) := hk'.cell (by simp <;> omega) c14_o24_0
  clear c14_o24_0 ac14_o24_0
  have c15_o24_1 : w15.cell? ⟨w6.heap.size, 1, none⟩ = some (.int .i64 st0) := hk'.cell (by simp <;> omega) c14_o24_1
  clear c14_o24_1 ac14_o24_1
  have c15_o24_2 : w15.cell? ⟨w6.heap.size, 2, none⟩ = some (.slice (some ⟨g023, 0, none⟩) n0 n0) := hk'.cell (by simp <;> omega) c14_o24_2
  clear c14_o24_2 ac14_o24_2
  have c15_o27_0 : w15.cell? ⟨w7.heap.size, 0, none⟩ = some (.int .i64 st1) := hk'.cell (by simp <;> omega) c14_o27_0
  clear c14_o27_0 ac14_o27_0
  have c15_o27_1 : w15.cell? ⟨w7.heap.size, 1, none⟩ = some (.slice (some ⟨g025, 0, none⟩) n1 n1) := hk'.cell (by simp <;> omega) c14_o27_1
  clear c14_o27_1 ac14_o27_1
  have c15_o27_2 : w15.cell? ⟨w7.heap.size, 2, none⟩ = some (.slice (some ⟨g126, 0, none⟩) m1 m1) := hk'.cell (by simp <;> omega) c14_o27_2
  clear c14_o27_2 ac14_o27_2
  have ac15_a0_0 := fun o => keepa o c15_a0_0
  have ac15_a0_1 := fun o => keepa o c15_a0_1
  have ac15_a0_2 := fun o => keepa o c15_a0_2
  have ac15_a1_0 := fun o => keepa o c15_a1_0
  have ac15_a1_1 := fun o => keepa o c15_a1_1
  have ac15_a1_2 := fun o => keepa o c15_a1_2
  have ac15_o24_0 := fun o => keepa o c15_o24_0
  have ac15_o24_1 := fun o => keepa o c15_o24_1
  have ac15_o24_2 := fun o => keepa o c15_o24_2
  have ac15_o27_0 := fun o => keepa o c15_o27_0
  have ac15_o27_1 := fun o => keepa o c15_o27_1
  have ac15_o27_2 := fun o => keepa o c15_o27_2
  have rP0 := P0.out.keep hk' (by omega); clear P0; have P0 := Lib.hid rP0; clear rP0
  have rP1 := P1.out.keep hk' (by omega); clear P1; have P1 := Lib.hid rP1; clear rP1
  have rFo22 := Fo22.out.keep hk' (by omega); clear Fo22; have Fo22 := Lib.hid rFo22; clear rFo22
  have rFo24 := Fo24.out.keep hk' (by omega); clear Fo24; have Fo24 := Lib.hid rFo24; clear rFo24
  have rFo27 := q15; clear Fo27; have Fo27 := Lib.hid rFo27; clear rFo27 q15
  have rFo34 := Fo34.out.keep hk' (by omega); clear Fo34; have Fo34 := Lib.hid rFo34; clear rFo34
  have rB := B.out.trans (hk'.below (B := w.heap.size) (by omega) (by omega)); clear B; have B := Lib.hid rB; clear rB
  clear hk hk'
  go_wp2_with fail
  refine (eqInt64SS_t _ _ _ _ _ _ _ _ _ (by exact (Fo34.out.rd)) (by exact (Fo22.out.rd)) (by omega) hI0_o34 (hm0_o34.out.trans hm0_o22.out.symm)).mono ?_
  rintro e w16 ⟨rfl, hb⟩
  have hb' : Below w15.heap.size w15 w16 := (by first | (with_reducible exact hb) | (with_reducible exact up1 hb) | (with_reducible exact up2 hb) | (with_reducible exact up3 hb) | (with_reducible exact up4 hb) | (with_reducible exact below_of_drew hb) | (with_reducible exact below_of_drew (up1 hb)))
  have z16 := hb'.size
  have c16_a0_0 : w16.cell? ⟨w.heap.size, 0, none⟩ = some (.int .i64 sy0) := keepc hb' c15_a0_0
  clear c15_a0_0 ac15_a0_0
  have c16_a0_1 : w16.cell? ⟨w.heap.size, 1, none⟩ = some (.int .i64 st0) := keepc hb' c15_a0_1
  clear c15_a0_1 ac15_a0_1
  have c16_a0_2 : w16.cell? ⟨w.heap.size, 2, none⟩ = some (.slice A0 n0 c0) := keepc hb' c15_a0_2
  clear c15_a0_2 ac15_a0_2
  have c16_a1_0 : w16.cell? ⟨(w.heap.size + 1), 0, none⟩ = some (.int .i64 st1) := keepc hb' c15_a1_0
  clear c15_a1_0 ac15_a1_0
  have c16_a1_1 : w16.cell? ⟨(w.heap.size + 1), 1, none⟩ = some (.slice A1 n1 c1) := keepc hb' c15_a1_1
  clear c15_a1_1 ac15_a1_1
  have c16_a1_2 : w16.cell? ⟨(w.heap.size + 1), 2, none⟩ = some (.slice B1 m1 d1) := keepc hb' c15_a1_2
  clear c15_a1_2 ac15_a1_2
  have c16_o24_0 : w16.cell? ⟨w6.heap.size, 0, none⟩ = some (.int .i64 sy0) := keepc hb' c15_o24_0
  clear c15_o24_0 ac15_o24_0
  have c16_o24_1 : w16.cell? ⟨w6.heap.size, 1, none⟩ = some (.int .i64 st0) := keepc hb' c15_o24_1
  clear c15_o24_1 ac15_o24_1
  have c16_o24_2 : w16.cell? ⟨w6.heap.size, 2, none⟩ = some (.slice (some ⟨g023, 0, none⟩) n0 n0) := keepc hb' c15_o24_2
  clear c15_o24_2 ac15_o24_2
  have c16_o27_0 : w16.cell? ⟨w7.heap.size, 0, none⟩ = some (.int .i64 st1) := keepc hb' c15_o27_0
  clear c15_o27_0 ac15_o27_0
  have c16_o27_1 : w16.cell? ⟨w7.heap.size, 1, none⟩ = some (.slice (some ⟨g025, 0, none⟩) n1 n1) := keepc hb' c15_o27_1
  clear c15_o27_1 ac15_o27_1
  have c16_o27_2 : w16.cell? ⟨w7.heap.size, 2, none⟩ = some (.slice (some ⟨g126, 0, none⟩) m1 m1) := keepc hb' c15_o27_2
  clear c15_o27_2 ac15_o27_2
  have ac16_a0_0 := fun o => keepa o c16_a0_0
  have ac16_a0_1 := fun o => keepa o c16_a0_1
  have ac16_a0_2 := fun o => keepa o c16_a0_2
  have ac16_a1_0 := fun o => keepa o c16_a1_0
  have ac16_a1_1 := fun o => keepa o c16_a1_1
  have ac16_a1_2 := fun o => keepa o c16_a1_2
  have ac16_o24_0 := fun o => keepa o c16_o24_0
  have ac16_o24_1 := fun o => keepa o c16_o24_1
  have ac16_o24_2 := fun o => keepa o c16_o24_2
  have ac16_o27_0 := fun o => keepa o c16_o27_0
  have ac16_o27_1 := fun o => keepa o c16_o27_1
  have ac16_o27_2 := fun o => keepa o c16_o27_2
  have rP0 := P0.out.below hb'; clear P0; have P0 := Lib.hid rP0; clear rP0
  have rP1 := P1.out.below hb'; clear P1; have P1 := Lib.hid rP1; clear rP1
  have rFo22 := Fo22.out.below hb'; clear Fo22; have Fo22 := Lib.hid rFo22; clear rFo22
  have rFo24 := Fo24.out.below hb'; clear Fo24; have Fo24 := Lib.hid rFo24; clear rFo24
  have rFo27 := Fo27.out.below hb'; clear Fo27; have Fo27 := Lib.hid rFo27; clear rFo27
  have rFo34 := Fo34.out.below hb'; clear Fo34; have Fo34 := Lib.hid rFo34; clear rFo34
  have rB := below_chain B.out (by omega) hb'; clear B; have B := Lib.hid rB; clear rB
  clear hb hb'
  go_wp2_with fail
  refine (markInt64SS_c _ _ _ _ _ _ _ _ (by exact (Fo34.out)) (by omega) hI0_o34 (by omega) (by omega) (by omega)).mono ?_
  rintro e w17 ⟨rfl, q17, hk⟩
  have hk' : KeepR (w7.heap.size + 1) w8.heap.size w16 w17 := (by first | (with_reducible exact hk) | (with_reducible exact hk.up1) | (with_reducible exact hk.up1.up1))
  have z17 := hk'.size
  have c17_a0_0 : w17.cell? ⟨w.heap.size, 0, none⟩ = some (.int .i64 sy0) := hk'.cell (by simp <;> omega) c16_a0_0
  clear c16_a0_0 ac16_a0_0
  have c17_a0_1 : w17.cell? ⟨w.heap.size, 1, none⟩ = some (.int .i64 st0) := hk'.cell (by simp <;> omega) c16_a0_1
  clear c16_a0_1 ac16_a0_1
  have c17_a0_2 : w17.cell? ⟨w.heap.size, 2, none⟩ = some (.slice A0 n0 c0) := hk'.cell (by simp <;> omega) c16_a0_2
  clear c16_a0_2 ac16_a0_2
  have c17_a1_0 : w17.cell? ⟨(w.heap.size + 1), 0, none⟩ = some (.int .i64 st1) := hk'.cell (by simp <;> omega) c16_a1_0
  clear c16_a1_0 ac16_a1_0
  have c17_a1_1 : w17.cell? ⟨(w.heap.size + 1), 1, none⟩ = some (.slice A1 n1 c1) := hk'.cell (by simp <;> omega) c16_a1_1
  clear c16_a1_1 ac16_a1_1
  have c17_a1_2 : w17.cell? ⟨(w.heap.size + 1), 2, none⟩ = some (.slice B1 m1 d1) := hk'.cell (by simp <;> omega) c16_a1_2
  clear c16_a1_2 ac16_a1_2
  have c17_o24_0 : w17.cell? ⟨w6.heap.size, 0, none⟩ = some (.int .i64 sy0) := hk'.cell (by simp <;> omega) c16_o24_0
  clear c16_o24_0 ac16_o24_0
  have c17_o24_1 : w17.cell? ⟨w6.heap.size, 1, none⟩ = some (.int .i64 st0) := hk'.cell (by simp <;> omega) c16_o24_1
  clear c16_o24_1 ac16_o24_1
  have c17_o24_2 : w17.cell? ⟨w6.heap.size, 2, none⟩ = some (.slice (some ⟨g023, 0, none⟩) n0 n0) := hk'.cell (by simp <;> omega) c16_o24_2
  clear c16_o24_2 ac16_o24_2
  have c17_o27_0 : w17.cell? ⟨w7.heap.size, 0, none⟩ = some (.int .i64 st1) := hk'.cell (by simp <;> omega) c16_o27_0
  clear c16_o27_0 ac16_o27_0
  have c17_o27_1 : w17.cell? ⟨w7.heap.size, 1, none⟩ = some (.slice (some ⟨g025, 0, none⟩) n1 n1) := hk'.cell (by simp <;> omega) c16_o27_1
  clear c16_o27_1 ac16_o27_1
  have c17_o27_2 : w17.cell? ⟨w7.heap.size, 2, none⟩ = some (.slice (some ⟨g126, 0, none⟩) m1 m1) := hk'.cell (by simp <;> omega) c16_o27_2
  clear c16_o27_2 ac16_o27_2
  have ac17_a0_0 := fun o => keepa o c17_a0_0
  have ac17_a0_1 := fun o => keepa o c17_a0_1
  have ac17_a0_2 := fun o => keepa o c17_a0_2
  have ac17_a1_0 := fun o => keepa o c17_a1_0
  have ac17_a1_1 := fun o => keepa o c17_a1_1
  have ac17_a1_2 := fun o => keepa o c17_a1_2
  have ac17_o24_0 := fun o => keepa o c17_o24_0
  have ac17_o24_1 := fun o => keepa o c17_o24_1
  have ac17_o24_2 := fun o => keepa o c17_o24_2
  have ac17_o27_0 := fun o => keepa o c17_o27_0
  have ac17_o27_1 := fun o => keepa o c17_o27_1
  have ac17_o27_2 := fun o => keepa o c17_o27_2
  have rP0 := P0.out.keep hk' (by omega); clear P0; have P0 := Lib.hid rP0; clear rP0
  have rP1 := P1.out.keep hk' (by omega); clear P1; have P1 := Lib.hid rP1; clear rP1
  have rFo22 := Fo22.out.keep hk' (by omega); clear Fo22; have Fo22 := Lib.hid rFo22; clear rFo22
  have rFo24 := Fo24.out.keep hk' (by omega); clear Fo24; have Fo24 := Lib.hid rFo24; clear rFo24
  have rFo27 := Fo27.out.keep hk' (by omega); clear Fo27; have Fo27 := Lib.hid rFo27; clear rFo27
  have rFo34 := q17; clear Fo34; have Fo34 := Lib.hid rFo34; clear rFo34 q17
  have rB := B.out.trans (hk'.below (B := w.heap.size) (by omega) (by omega)); clear B; have B := Lib.hid rB; clear rB
  clear hk hk'
  go_wp2_with fail
  refine (heldInt64SS_c _ _ _ _ _ _ (by exact (Fo34.out.rd)) (by omega) hI0_o34 (by omega) (by omega) (by omega)).mono ?_
  rintro e w18 ⟨rfl, hb⟩
  have hb' : Below w17.heap.size w17 w18 := (by first | (with_reducible exact hb) | (with_reducible exact up1 hb) | (with_reducible exact up2 hb) | (with_reducible exact up3 hb) | (with_reducible exact up4 hb) | (with_reducible exact below_of_drew hb) | (with_reducible exact below_of_drew (up1 hb)))
  have z18 := hb'.size
  have c18_a0_0 : w18.cell? ⟨w.heap.size, 0, none⟩ = some (.int .i64 sy0) := keepc hb' c17_a0_0
  clear c17_a0_0 ac17_a0_0
  have c18_a0_1 : w18.cell? ⟨w.heap.size, 1, none⟩ = some (.int .i64 st0) := keepc hb' c17_a0_1
  clear c17_a0_1 ac17_a0_1
  have c18_a0_2 : w18.cell? ⟨w.heap.size, 2, none⟩ = some (.slice A0 n0 c0) := keepc hb' c17_a0_2
  clear c17_a0_2 ac17_a0_2
  have c18_a1_0 : w18.cell? ⟨(w.heap.size + 1), 0, none⟩ = some (.int .i64 st1) := keepc hb' c17_a1_0
  clear c17_a1_0 ac17_a1_0
  have c18_a1_1 : w18.cell? ⟨(w.heap.size + 1), 1, none⟩ = some (.slice A1 n1 c1) := keepc hb' c17_a1_1
  clear c17_a1_1 ac17_a1_1
  have c18_a1_2 : w18.cell? ⟨(w.heap.size + 1), 2, none⟩ = some (.slice B1 m1 d1) := keepc hb' c17_a1_2
  clear c17_a1_2 ac17_a1_2
  have c18_o24_0 : w18.cell? ⟨w6.heap.size, 0, none⟩ = some (.int .i64 sy0) := keepc hb' c17_o24_0
  clear c17_o24_0 ac17_o24_0
  have c18_o24_1 : w18.cell? ⟨w6.heap.size, 1, none⟩ = some (.int .i64 st0) := keepc hb' c17_o24_1
  clear c17_o24_1 ac17_o24_1
  have c18_o24_2 : w18.cell? ⟨w6.heap.size, 2, none⟩ = some (.slice (some ⟨g023, 0, none⟩) n0 n0) := keepc hb' c17_o24_2
  clear c17_o24_2 ac17_o24_2
  have c18_o27_0 : w18.cell? ⟨w7.heap.size, 0, none⟩ = some (.int .i64 st1) := keepc hb' c17_o27_0
  clear c17_o27_0 ac17_o27_0
  have c18_o27_1 : w18.cell? ⟨w7.heap.size, 1, none⟩ = some (.slice (some ⟨g025, 0, none⟩) n1 n1) := keepc hb' c17_o27_1
  clear c17_o27_1 ac17_o27_1
  have c18_o27_2 : w18.cell? ⟨w7.heap.size, 2, none⟩ = some (.slice (some ⟨g126, 0, none⟩) m1 m1) := keepc hb' c17_o27_2
  clear c17_o27_2 ac17_o27_2
  have ac18_a0_0 := fun o => keepa o c18_a0_0
  have ac18_a0_1 := fun o => keepa o c18_a0_1
  have ac18_a0_2 := fun o => keepa o c18_a0_2
  have ac18_a1_0 := fun o => keepa o c18_a1_0
  have ac18_a1_1 := fun o => keepa o c18_a1_1
  have ac18_a1_2 := fun o => keepa o c18_a1_2
  have ac18_o24_0 := fun o => keepa o c18_o24_0
  have ac18_o24_1 := fun o => keepa o c18_o24_1
  have ac18_o24_2 := fun o => keepa o c18_o24_2
  have ac18_o27_0 := fun o => keepa o c18_o27_0
  have ac18_o27_1 := fun o => keepa o c18_o27_1
  have ac18_o27_2 := fun o => keepa o c18_o27_2
  have rP0 := P0.out.below hb'; clear P0; have P0 := Lib.hid rP0; clear rP0
  have rP1 := P1.out.below hb'; clear P1; have P1 := Lib.hid rP1; clear rP1
  have rFo22 := Fo22.out.below hb'; clear Fo22; have Fo22 := Lib.hid rFo22; clear rFo22
  have rFo24 := Fo24.out.below hb'; clear Fo24; have Fo24 := Lib.hid rFo24; clear rFo24
  have rFo27 := Fo27.out.below hb'; clear Fo27; have Fo27 := Lib.hid rFo27; clear rFo27
  have rFo34 := Fo34.out.below hb'; clear Fo34; have Fo34 := Lib.hid rFo34; clear rFo34
  have rB := below_chain B.out (by omega) hb'; clear B; have B := Lib.hid rB; clear rB
  clear hb hb'
  go_wp2_with fail
  have fx_c18_a0_0 := Ext.cell c18_a0_0
  have fx_c18_a0_1 := Ext.cell c18_a0_1
  have fx_c18_a0_2 := Ext.cell c18_a0_2
  have fx_c18_a1_0 := Ext.cell c18_a1_0
  have fx_c18_a1_1 := Ext.cell c18_a1_1
  have fx_c18_a1_2 := Ext.cell c18_a1_2
  have fx_c18_o24_0 := Ext.cell c18_o24_0
  have fx_c18_o24_1 := Ext.cell c18_o24_1
  have fx_c18_o24_2 := Ext.cell c18_o24_2
  have fx_c18_o27_0 := Ext.cell c18_o27_0
  have fx_c18_o27_1 := Ext.cell c18_o27_1
  have fx_c18_o27_2 := Ext.cell c18_o27_2
  refine Mix.wp_region_mix [3, 1, 3, 1, 0, 1, 0, 0, 0, 0, 0] (fun w' => ∃ x : Ext w18, w' = x.w) (by kernel_rfl) (by kernel_rfl) (InExt.drew _) ?_
  repeat (first | (refine Mix.wpMix_read (by rfl) ?_; go_big_quiet_step (fail); refine wpQuiet_nil ?_) | (refine Mix.wpMix_pure (by rfl) ?_; go_big_quiet_step (fail); refine wpQuiet_nil ?_))
  refine Mix.wpMix_chg (by rfl) (fun K hK => ?_)
  go_wp2_with fail
  refine (toMachine_c _ _ _ _ _ _ _ (by exact (P0.out.rd)) (by omega)).mono ?_
  rintro e w19 ⟨g040, rfl, q19, hb⟩
  have hb' : Below w18.heap.size w18 w19 := (by first | (with_reducible exact hb) | (with_reducible exact up1 hb) | (with_reducible exact up2 hb) | (with_reducible exact up3 hb) | (with_reducible exact up4 hb) | (with_reducible exact below_of_drew hb) | (with_reducible exact below_of_drew (up1 hb)))
  have z19 := hb'.size
  have c19_a0_0 : w19.cell? ⟨w.heap.size, 0, none⟩ = some (.int .i64 sy0) := keepc hb' c18_a0_0
  clear c18_a0_0 ac18_a0_0
  have c19_a0_1 : w19.cell? ⟨w.heap.size, 1, none⟩ = some (.int .i64 st0) := keepc hb' c18_a0_1
  clear c18_a0_1 ac18_a0_1
  have c19_a0_2 : w19.cell? ⟨w.heap.size, 2, none⟩ = some (.slice A0 n0 c0) := keepc hb' c18_a0_2
  clear c18_a0_2 ac18_a0_2
  have c19_a1_0 : w19.cell? ⟨(w.heap.size + 1), 0, none⟩ = some (.int .i64 st1) := keepc hb' c18_a1_0
  clear c18_a1_0 ac18_a1_0
  have c19_a1_1 : w19.cell? ⟨(w.heap.size + 1), 1, none⟩ = some (.slice A1 n1 c1) := keepc hb' c18_a1_1
  clear c18_a1_1 ac18_a1_1
  have c19_a1_2 : w19.cell? ⟨(w.heap.size + 1), 2, none⟩ = some (.slice B1 m1 d1) := keepc hb' c18_a1_2
  clear c18_a1_2 ac18_a1_2
  have c19_o24_0 : w19.cell? ⟨w6.heap.size, 0, none⟩ = some (.int .i64 sy0) := keepc hb' c18_o24_0
  clear c18_o24_0 ac18_o24_0
  have c19_o24_1 : w19.cell? ⟨w6.heap.size, 1, none⟩ = some (.int .i64 st0) := keepc hb' c18_o24_1
  clear c18_o24_1 ac18_o24_1
  have c19_o24_2 : w19.cell? ⟨w6.heap.size, 2, none⟩ = some (.slice (some ⟨g023, 0, none⟩) n0 n0) := keepc hb' c18_o24_2
  clear c18_o24_2 ac18_o24_2
  have c19_o27_0 : w19.cell? ⟨w7.heap.size, 0, none⟩ = some (.int .i64 st1) := keepc hb' c18_o27_0
  clear c18_o27_0 ac18_o27_0
  have c19_o27_1 : w19.cell? ⟨w7.heap.size, 1, none⟩ = some (.slice (some ⟨g025, 0, none⟩) n1 n1) := keepc hb' c18_o27_1
  clear c18_o27_1 ac18_o27_1
  have c19_o27_2 : w19.cell? ⟨w7.heap.size, 2, none⟩ = some (.slice (some ⟨g126, 0, none⟩) m1 m1) := keepc hb' c18_o27_2
  clear c18_o27_2 ac18_o27_2
  have ac19_a0_0 := fun o => keepa o c19_a0_0
  have ac19_a0_1 := fun o => keepa o c19_a0_1
  have ac19_a0_2 := fun o => keepa o c19_a0_2
  have ac19_a1_0 := fun o => keepa o c19_a1_0
  have ac19_a1_1 := fun o => keepa o c19_a1_1
  have ac19_a1_2 := fun o => keepa o c19_a1_2
  have ac19_o24_0 := fun o => keepa o c19_o24_0
  have ac19_o24_1 := fun o => keepa o c19_o24_1
  have ac19_o24_2 := fun o => keepa o c19_o24_2
  have ac19_o27_0 := fun o => keepa o c19_o27_0
  have ac19_o27_1 := fun o => keepa o c19_o27_1
  have ac19_o27_2 := fun o => keepa o c19_o27_2
  have rP0 := P0.out.below hb'; clear P0; have P0 := Lib.hid rP0; clear rP0
  have rP1 := P1.out.below hb'; clear P1; have P1 := Lib.hid rP1; clear rP1
  have rFo22 := Fo22.out.below hb'; clear Fo22; have Fo22 := Lib.hid rFo22; clear rFo22
  have rFo24 := Fo24.out.below hb'; clear Fo24; have Fo24 := Lib.hid rFo24; clear rFo24
  have rFo27 := Fo27.out.below hb'; clear Fo27; have Fo27 := Lib.hid rFo27; clear rFo27
  have rFo34 := Fo34.out.below hb'; clear Fo34; have Fo34 := Lib.hid rFo34; clear rFo34
  have rB := below_chain B.out (by omega) hb'; clear B; have B := Lib.hid rB; clear rB
  have Fo41 := Lib.hid q19; clear q19
  have em19 : Below w18.heap.size w18 w19 := hb'
  clear hb hb'
  go_wp2_with fail
  refine hK _ _ ⟨⟨_, em19⟩, rfl⟩ ?_
  clear hK K
  repeat (first | (refine Mix.wpMix_read (by rfl) ?_; go_big_quiet_step (fail); refine wpQuiet_nil ?_) | (refine Mix.wpMix_pure (by rfl) ?_; go_big_quiet_step (fail); refine wpQuiet_nil ?_))
  refine Mix.wpMix_chg (by rfl) (fun K hK => ?_)
  go_wp2_with fail
  refine (toConfig_c _ _ _ _ _ _ _ _ _ _ (by exact (P1.out.rd)) (by omega) (by omega)).mono ?_
  rintro e w20 ⟨g042, g143, rfl, q20, hb⟩
  have hb' : Below w19.heap.size w19 w20 := (by first | (with_reducible exact hb) | (with_reducible exact up1 hb) | (with_reducible exact up2 hb) | (with_reducible exact up3 hb) | (with_reducible exact up4 hb) | (with_reducible exact below_of_drew hb) | (with_reducible exact below_of_drew (up1 hb)))
  have z20 := hb'.size
  have c20_a0_0 : w20.cell? ⟨w.heap.size, 0, none⟩ = some (.int .i64 sy0) := keepc hb' c19_a0_0
  clear c19_a0_0 ac19_a0_0
  have c20_a0_1 : w20.cell? ⟨w.heap.size, 1, none⟩ = some (.int .i64 st0) := keepc hb' c19_a0_1
  clear c19_a0_1 ac19_a0_1
  have c20_a0_2 : w20.cell? ⟨w.heap.size, 2, none⟩ = some (.slice A0 n0 c0) := keepc hb' c19_a0_2
  clear c19_a0_2 ac19_a0_2
  have c20_a1_0 : w20.cell? ⟨(w.heap.size + 1), 0, none⟩ = some (.int .i64 st1) := keepc hb' c19_a1_0
  clear c19_a1_0 ac19_a1_0
  have c20_a1_1 : w20.cell? ⟨(w.heap.size + 1), 1, none⟩ = some (.slice A1 n1 c1) := keepc hb' c19_a1_1
  clear c19_a1_1 ac19_a1_1
  have c20_a1_2 : w20.cell? ⟨(w.heap.size + 1), 2, none⟩ = some (.slice B1 m1 d1) := keepc hb' c19_a1_2
  clear c19_a1_2 ac19_a1_2
  have c20_o24_0 : w20.cell? ⟨w6.heap.size, 0, none⟩ = some (.int .i64 sy0) := keepc hb' c19_o24_0
  clear c19_o24_0 ac19_o24_0
  have c20_o24_1 : w20.cell? ⟨w6.heap.size, 1, none⟩ = some (.int .i64 st0) := keepc hb' c19_o24_1
  clear c19_o24_1 ac19_o24_1
  have c20_o24_2 : w20.cell? ⟨w6.heap.size, 2, none⟩ = some (.slice (some ⟨g023, 0, none⟩) n0 n0) := keepc hb' c19_o24_2
  clear c19_o24_2 ac19_o24_2
  have c20_o27_0 : w20.cell? ⟨w7.heap.size, 0, none⟩ = some (.int .i64 st1) := keepc hb' c19_o27_0
  clear c19_o27_0 ac19_o27_0
  have c20_o27_1 : w20.cell? ⟨w7.heap.size, 1, none⟩ = some (.slice (some ⟨g025, 0, none⟩) n1 n1) := keepc hb' c19_o27_1
  clear c19_o27_1 ac19_o27_1
  have c20_o27_2 : w20.cell? ⟨w7.heap.size, 2, none⟩ = some (.slice (some ⟨g126, 0, none⟩) m1 m1) := keepc hb' c19_o27_2
  clear c19_o27_2 ac19_o27_2
  have ac20_a0_0 := fun o => keepa o c20_a0_0
  have ac20_a0_1 := fun o => keepa o c20_a0_1
  have ac20_a0_2 := fun o => keepa o c20_a0_2
  have ac20_a1_0 := fun o => keepa o c20_a1_0
  have ac20_a1_1 := fun o => keepa o c20_a1_1
  have ac20_a1_2 := fun o => keepa o c20_a1_2
  have ac20_o24_0 := fun o => keepa o c20_o24_0
  have ac20_o24_1 := fun o => keepa o c20_o24_1
  have ac20_o24_2 := fun o => keepa o c20_o24_2
  have ac20_o27_0 := fun o => keepa o c20_o27_0
  have ac20_o27_1 := fun o => keepa o c20_o27_1
  have ac20_o27_2 := fun o => keepa o c20_o27_2
  have rP0 := P0.out.below hb'; clear P0; have P0 := Lib.hid rP0; clear rP0
  have rP1 := P1.out.below hb'; clear P1; have P1 := Lib.hid rP1; clear rP1
  have rFo22 := Fo22.out.below hb'; clear Fo22; have Fo22 := Lib.hid rFo22; clear rFo22
  have rFo24 := Fo24.out.below hb'; clear Fo24; have Fo24 := Lib.hid rFo24; clear rFo24
  have rFo27 := Fo27.out.below hb'; clear Fo27; have Fo27 := Lib.hid rFo27; clear rFo27
  have rFo34 := Fo34.out.below hb'; clear Fo34; have Fo34 := Lib.hid rFo34; clear rFo34
  have rFo41 := Fo41.out.below hb'; clear Fo41; have Fo41 := Lib.hid rFo41; clear rFo41
  have rB := below_chain B.out (by omega) hb'; clear B; have B := Lib.hid rB; clear rB
  have Fo44 := Lib.hid q20; clear q20
  have em20 : Below w18.heap.size w18 w20 := below_chain em19 (by omega) hb'
  clear hb hb'
  go_wp2_with fail
  refine hK _ _ ⟨⟨_, em20⟩, rfl⟩ ?_
  clear hK K
  repeat (first | (refine Mix.wpMix_read (by rfl) ?_; go_big_quiet_step (fail); refine wpQuiet_nil ?_) | (refine Mix.wpMix_pure (by rfl) ?_; go_big_quiet_step (fail); refine wpQuiet_nil ?_))
  refine Mix.wpMix_chg (by rfl) (fun K hK => ?_)
  go_wp2_with fail
  refine (iDerivationOfRun_c _ _ _ _ _ _ _ _ _ _ _ _ _ _ _ _ _ (by exact (Fo41.out.rd)) (by exact (Fo44.out.rd)) (by omega) (by omega) (by omega) HRR.out).mono ?_
  rintro e w21 ⟨A45, n46, c47, its48, rfl, q49, l50, hb⟩
  have hb' : Below w20.heap.size w20 w21 := (by first | (with_reducible exact hb) | (with_reducible exact up1 hb) | (with_reducible exact up2 hb) | (with_reducible exact up3 hb) | (with_reducible exact up4 hb) | (with_reducible exact below_of_drew hb) | (with_reducible exact below_of_drew (up1 hb)))
  have z21 := hb'.size
  have c21_a0_0 : w21.cell? ⟨w.heap.size, 0, none⟩ = some (.int .i64 sy0) := keepc hb' c20_a0_0
  clear c20_a0_0 ac20_a0_0
  have c21_a0_1 : w21.cell? ⟨w.heap.size, 1, none⟩ = some (.int .i64 st0) := keepc hb' c20_a0_1
  clear c20_a0_1 ac20_a0_1
  have c21_a0_2 : w21.cell? ⟨w.heap.size, 2, none⟩ = some (.slice A0 n0 c0) := keepc hb' c20_a0_2
  clear c20_a0_2 ac20_a0_2
  have c21_a1_0 : w21.cell? ⟨(w.heap.size + 1), 0, none⟩ = some (.int .i64 st1) := keepc hb' c20_a1_0
  clear c20_a1_0 ac20_a1_0
  have c21_a1_1 : w21.cell? ⟨(w.heap.size + 1), 1, none⟩ = some (.slice A1 n1 c1) := keepc hb' c20_a1_1
  clear c20_a1_1 ac20_a1_1
  have c21_a1_2 : w21.cell? ⟨(w.heap.size + 1), 2, none⟩ = some (.slice B1 m1 d1) := keepc hb' c20_a1_2
  clear c20_a1_2 ac20_a1_2
  have c21_o24_0 : w21.cell? ⟨w6.heap.size, 0, none⟩ = some (.int .i64 sy0) := keepc hb' c20_o24_0
  clear c20_o24_0 ac20_o24_0
  have c21_o24_1 : w21.cell? ⟨w6.heap.size, 1, none⟩ = some (.int .i64 st0) := keepc hb' c20_o24_1
  clear c20_o24_1 ac20_o24_1
  have c21_o24_2 : w21.cell? ⟨w6.heap.size, 2, none⟩ = some (.slice (some ⟨g023, 0, none⟩) n0 n0) := keepc hb' c20_o24_2
  clear c20_o24_2 ac20_o24_2
  have c21_o27_0 : w21.cell? ⟨w7.heap.size, 0, none⟩ = some (.int .i64 st1) := keepc hb' c20_o27_0
  clear c20_o27_0 ac20_o27_0
  have c21_o27_1 : w21.cell? ⟨w7.heap.size, 1, none⟩ = some (.slice (some ⟨g025, 0, none⟩) n1 n1) := keepc hb' c20_o27_1
  clear c20_o27_1 ac20_o27_1
  have c21_o27_2 : w21.cell? ⟨w7.heap.size, 2, none⟩ = some (.slice (some ⟨g126, 0, none⟩) m1 m1) := keepc hb' c20_o27_2
  clear c20_o27_2 ac20_o27_2
  have ac21_a0_0 := fun o => keepa o c21_a0_0
  have ac21_a0_1 := fun o => keepa o c21_a0_1
  have ac21_a0_2 := fun o => keepa o c21_a0_2
  have ac21_a1_0 := fun o => keepa o c21_a1_0
  have ac21_a1_1 := fun o => keepa o c21_a1_1
  have ac21_a1_2 := fun o => keepa o c21_a1_2
  have ac21_o24_0 := fun o => keepa o c21_o24_0
  have ac21_o24_1 := fun o => keepa o c21_o24_1
  have ac21_o24_2 := fun o => keepa o c21_o24_2
  have ac21_o27_0 := fun o => keepa o c21_o27_0
  have ac21_o27_1 := fun o => keepa o c21_o27_1
  have ac21_o27_2 := fun o => keepa o c21_o27_2
  have rP0 := P0.out.below hb'; clear P0; have P0 := Lib.hid rP0; clear rP0
  have rP1 := P1.out.below hb'; clear P1; have P1 := Lib.hid rP1; clear rP1
  have rFo22 := Fo22.out.below hb'; clear Fo22; have Fo22 := Lib.hid rFo22; clear rFo22
  have rFo24 := Fo24.out.below hb'; clear Fo24; have Fo24 := Lib.hid rFo24; clear rFo24
  have rFo27 := Fo27.out.below hb'; clear Fo27; have Fo27 := Lib.hid rFo27; clear rFo27
  have rFo34 := Fo34.out.below hb'; clear Fo34; have Fo34 := Lib.hid rFo34; clear rFo34
  have rFo41 := Fo41.out.below hb'; clear Fo41; have Fo41 := Lib.hid rFo41; clear rFo41
  have rFo44 := Fo44.out.below hb'; clear Fo44; have Fo44 := Lib.hid rFo44; clear rFo44
  have rB := below_chain B.out (by omega) hb'; clear B; have B := Lib.hid rB; clear rB
  have Fo51 := Lib.hid q49; clear q49
  obtain ⟨ln_o51, bI0_o51, hs0_o51, bm0_o51⟩ := l50
  have hI0_o51 := (fun t ht => Nat.le_trans (bI0_o51 t ht) (by omega) : ∀ t ∈ its48, t.n ≤ 1000000000); have hm0_o51 := Lib.hid bm0_o51; clear bI0_o51 bm0_o51
  have em21 : Below w18.heap.size w18 w21 := below_chain em20 (by omega) hb'
  clear hb hb'
  go_wp2_with fail
  refine hK _ _ ⟨⟨_, em21⟩, rfl⟩ ?_
  clear hK K
  repeat (first | (refine Mix.wpMix_read (by rfl) ?_; go_big_quiet_step (fail); refine wpQuiet_nil ?_) | (refine Mix.wpMix_pure (by rfl) ?_; go_big_quiet_step (fail); refine wpQuiet_nil ?_))
  (refine Mix.wpMix_nil ?_; try simp only [Exit.then])
  clear fx_c18_a0_0
  clear fx_c18_a0_1
  clear fx_c18_a0_2
  clear fx_c18_a1_0
  clear fx_c18_a1_1
  clear fx_c18_a1_2
  clear fx_c18_o24_0
  clear fx_c18_o24_1
  clear fx_c18_o24_2
  clear fx_c18_o27_0
  clear fx_c18_o27_1
  clear fx_c18_o27_2
  clear Fo41
  clear Fo44
  go_wp2_with fail
  refine (eqInt64SS_t _ _ _ _ _ _ _ _ _ (by exact (Fo51.out.rd)) (by exact (Fo22.out.rd)) (by omega) hI0_o51 (hm0_o51.out.trans hm0_o22.out.symm)).mono ?_
  rintro e w22 ⟨rfl, hb⟩
  have hb' : Below w21.heap.size w21 w22 := (by first | (with_reducible exact hb) | (with_reducible exact up1 hb) | (with_reducible exact up2 hb) | (with_reducible exact up3 hb) | (with_reducible exact up4 hb) | (with_reducible exact below_of_drew hb) | (with_reducible exact below_of_drew (up1 hb)))
  have z22 := hb'.size
  have c22_a0_0 : w22.cell? ⟨w.heap.size, 0, none⟩ = some (.int .i64 sy0) := keepc hb' c21_a0_0
  clear c21_a0_0 ac21_a0_0
  have c22_a0_1 : w22.cell? ⟨w.heap.size, 1, none⟩ = some (.int .i64 st0) := keepc hb' c21_a0_1
  clear c21_a0_1 ac21_a0_1
  have c22_a0_2 : w22.cell? ⟨w.heap.size, 2, none⟩ = some (.slice A0 n0 c0) := keepc hb' c21_a0_2
  clear c21_a0_2 ac21_a0_2
  have c22_a1_0 : w22.cell? ⟨(w.heap.size + 1), 0, none⟩ = some (.int .i64 st1) := keepc hb' c21_a1_0
  clear c21_a1_0 ac21_a1_0
  have c22_a1_1 : w22.cell? ⟨(w.heap.size + 1), 1, none⟩ = some (.slice A1 n1 c1) := keepc hb' c21_a1_1
  clear c21_a1_1 ac21_a1_1
  have c22_a1_2 : w22.cell? ⟨(w.heap.size + 1), 2, none⟩ = some (.slice B1 m1 d1) := keepc hb' c21_a1_2
  clear c21_a1_2 ac21_a1_2
  have c22_o24_0 : w22.cell? ⟨w6.heap.size, 0, none⟩ = some (.int .i64 sy0) := keepc hb' c21_o24_0
  clear c21_o24_0 ac21_o24_0
  have c22_o24_1 : w22.cell? ⟨w6.heap.size, 1, none⟩ = some (.int .i64 st0) := keepc hb' c21_o24_1
  clear c21_o24_1 ac21_o24_1
  have c22_o24_2 : w22.cell? ⟨w6.heap.size, 2, none⟩ = some (.slice (some ⟨g023, 0, none⟩) n0 n0) := keepc hb' c21_o24_2
  clear c21_o24_2 ac21_o24_2
  have c22_o27_0 : w22.cell? ⟨w7.heap.size, 0, none⟩ = some (.int .i64 st1) := keepc hb' c21_o27_0
  clear c21_o27_0 ac21_o27_0
  have c22_o27_1 : w22.cell? ⟨w7.heap.size, 1, none⟩ = some (.slice (some ⟨g025, 0, none⟩) n1 n1) := keepc hb' c21_o27_1
  clear c21_o27_1 ac21_o27_1
  have c22_o27_2 : w22.cell? ⟨w7.heap.size, 2, none⟩ = some (.slice (some ⟨g126, 0, none⟩) m1 m1) := keepc hb' c21_o27_2
  clear c21_o27_2 ac21_o27_2
  have ac22_a0_0 := fun o => keepa o c22_a0_0
  have ac22_a0_1 := fun o => keepa o c22_a0_1
  have ac22_a0_2 := fun o => keepa o c22_a0_2
  have ac22_a1_0 := fun o => keepa o c22_a1_0
  have ac22_a1_1 := fun o => keepa o c22_a1_1
  have ac22_a1_2 := fun o => keepa o c22_a1_2
  have ac22_o24_0 := fun o => keepa o c22_o24_0
  have ac22_o24_1 := fun o => keepa o c22_o24_1
  have ac22_o24_2 := fun o => keepa o c22_o24_2
  have ac22_o27_0 := fun o => keepa o c22_o27_0
  have ac22_o27_1 := fun o => keepa o c22_o27_1
  have ac22_o27_2 := fun o => keepa o c22_o27_2
  have rP0 := P0.out.below hb'; clear P0; have P0 := Lib.hid rP0; clear rP0
  have rP1 := P1.out.below hb'; clear P1; have P1 := Lib.hid rP1; clear rP1
  have rFo22 := Fo22.out.below hb'; clear Fo22; have Fo22 := Lib.hid rFo22; clear rFo22
  have rFo24 := Fo24.out.below hb'; clear Fo24; have Fo24 := Lib.hid rFo24; clear rFo24
  have rFo27 := Fo27.out.below hb'; clear Fo27; have Fo27 := Lib.hid rFo27; clear rFo27
  have rFo34 := Fo34.out.below hb'; clear Fo34; have Fo34 := Lib.hid rFo34; clear rFo34
  have rFo51 := Fo51.out.below hb'; clear Fo51; have Fo51 := Lib.hid rFo51; clear rFo51
  have rB := below_chain B.out (by omega) hb'; clear B; have B := Lib.hid rB; clear rB
  clear hb hb'
  go_wp2_with fail
  refine (heldInt64SS_c _ _ _ _ _ _ (by exact (Fo34.out.rd)) (by omega) hI0_o34 (by omega) (by omega) (by omega)).mono ?_
  rintro e w23 ⟨rfl, hb⟩
  have hb' : Below w22.heap.size w22 w23 := (by first | (with_reducible exact hb) | (with_reducible exact up1 hb) | (with_reducible exact up2 hb) | (with_reducible exact up3 hb) | (with_reducible exact up4 hb) | (with_reducible exact below_of_drew hb) | (with_reducible exact below_of_drew (up1 hb)))
  have z23 := hb'.size
  have c23_a0_0 : w23.cell? ⟨w.heap.size, 0, none⟩ = some (.int .i64 sy0) := keepc hb' c22_a0_0
  clear c22_a0_0 ac22_a0_0
  have c23_a0_1 : w23.cell? ⟨w.heap.size, 1, none⟩ = some (.int .i64 st0) := keepc hb' c22_a0_1
  clear c22_a0_1 ac22_a0_1
  have c23_a0_2 : w23.cell? ⟨w.heap.size, 2, none⟩ = some (.slice A0 n0 c0) := keepc hb' c22_a0_2
  clear c22_a0_2 ac22_a0_2
  have c23_a1_0 : w23.cell? ⟨(w.heap.size + 1), 0, none⟩ = some (.int .i64 st1) := keepc hb' c22_a1_0
  clear c22_a1_0 ac22_a1_0
  have c23_a1_1 : w23.cell? ⟨(w.heap.size + 1), 1, none⟩ = some (.slice A1 n1 c1) := keepc hb' c22_a1_1
  clear c22_a1_1 ac22_a1_1
  have c23_a1_2 : w23.cell? ⟨(w.heap.size + 1), 2, none⟩ = some (.slice B1 m1 d1) := keepc hb' c22_a1_2
  clear c22_a1_2 ac22_a1_2
  have c23_o24_0 : w23.cell? ⟨w6.heap.size, 0, none⟩ = some (.int .i64 sy0) := keepc hb' c22_o24_0
  clear c22_o24_0 ac22_o24_0
  have c23_o24_1 : w23.cell? ⟨w6.heap.size, 1, none⟩ = some (.int .i64 st0) := keepc hb' c22_o24_1
  clear c22_o24_1 ac22_o24_1
  have c23_o24_2 : w23.cell? ⟨w6.heap.size, 2, none⟩ = some (.slice (some ⟨g023, 0, none⟩) n0 n0) := keepc hb' c22_o24_2
  clear c22_o24_2 ac22_o24_2
  have c23_o27_0 : w23.cell? ⟨w7.heap.size, 0, none⟩ = some (.int .i64 st1) := keepc hb' c22_o27_0
  clear c22_o27_0 ac22_o27_0
  have c23_o27_1 : w23.cell? ⟨w7.heap.size, 1, none⟩ = some (.slice (some ⟨g025, 0, none⟩) n1 n1) := keepc hb' c22_o27_1
  clear c22_o27_1 ac22_o27_1
  have c23_o27_2 : w23.cell? ⟨w7.heap.size, 2, none⟩ = some (.slice (some ⟨g126, 0, none⟩) m1 m1) := keepc hb' c22_o27_2
  clear c22_o27_2 ac22_o27_2
  have ac23_a0_0 := fun o => keepa o c23_a0_0
  have ac23_a0_1 := fun o => keepa o c23_a0_1
  have ac23_a0_2 := fun o => keepa o c23_a0_2
  have ac23_a1_0 := fun o => keepa o c23_a1_0
  have ac23_a1_1 := fun o => keepa o c23_a1_1
  have ac23_a1_2 := fun o => keepa o c23_a1_2
  have ac23_o24_0 := fun o => keepa o c23_o24_0
  have ac23_o24_1 := fun o => keepa o c23_o24_1
  have ac23_o24_2 := fun o => keepa o c23_o24_2
  have ac23_o27_0 := fun o => keepa o c23_o27_0
  have ac23_o27_1 := fun o => keepa o c23_o27_1
  have ac23_o27_2 := fun o => keepa o c23_o27_2
  have rP0 := P0.out.below hb'; clear P0; have P0 := Lib.hid rP0; clear rP0
  have rP1 := P1.out.below hb'; clear P1; have P1 := Lib.hid rP1; clear rP1
  have rFo22 := Fo22.out.below hb'; clear Fo22; have Fo22 := Lib.hid rFo22; clear rFo22
  have rFo24 := Fo24.out.below hb'; clear Fo24; have Fo24 := Lib.hid rFo24; clear rFo24
  have rFo27 := Fo27.out.below hb'; clear Fo27; have Fo27 := Lib.hid rFo27; clear rFo27
  have rFo34 := Fo34.out.below hb'; clear Fo34; have Fo34 := Lib.hid rFo34; clear rFo34
  have rFo51 := Fo51.out.below hb'; clear Fo51; have Fo51 := Lib.hid rFo51; clear rFo51
  have rB := below_chain B.out (by omega) hb'; clear B; have B := Lib.hid rB; clear rB
  clear hb hb'
  go_wp2
  go_ret
  exact ⟨rfl, B.out⟩
end Go.Proofs.Ytcbcjhfeidkeaaa
