/-
  FnExactAvoidsHalting returns true for every input: its walk, out of the contracts.
-/
import Derived.Test.YtfahdgmlhinabaaLawMachine
import Derived.Test.YtfahdgmlhinabaaLawDfa
import Derived.Test.YtfahdgmlhinabaaLawI
import Derived.Test.YtfahdgmlhinabaaC28u
import Derived.Test.YtfahdgmlhinabaaOpen
namespace Go.Proofs.Ytfahdgmlhinabaa
open Go.RowKit

set_option maxHeartbeats 4000000 in
set_option maxRecDepth 100000 in
theorem walkAvoidsHalting (sy0 : Int) (st0 : Int) (A0 : Option Addr) (n0 : Nat) (c0 : Nat) (xs0 : List (Int × Int × Int)) (st1 : Int) (A1 : Option Addr) (n1 : Nat) (c1 : Nat) (xs1 : List Int) (st2 : Int) (A2 : Option Addr) (n2 : Nat) (c2 : Nat) (xs2 : List Int) (w : World) (h0 : RdS w [sgX enc3 3 A0 n0 xs0]) (hb0_0 : n0 ≤ 9223372036854775807) (_o0 : i64ok sy0) (_p0 : i64ok st0) (_oo0 : ∀ x ∈ xs0, i64ok x.1 ∧ i64ok x.2.1 ∧ i64ok x.2.2) (h1 : RdI w A1 n1 xs1) (hb1 : n1 ≤ 9223372036854775807) (_o1 : i64ok st1) (_oo1 : ∀ x ∈ xs1, i64ok x) (h2 : RdI w A2 n2 xs2) (hb2 : n2 ≤ 9223372036854775807) (_o2 : i64ok st2) (_oo2 : ∀ x ∈ xs2, i64ok x) :
    Calls Try.prog 6 #[.agg #[.int .i64 sy0, .int .i64 st0, .slice A0 n0 c0], .agg #[.int .i64 st1, .slice A1 n1 c1], .agg #[.int .i64 st2, .slice A2 n2 c2]] w fun e w' => e = .returned (.bool true) ∧ Below w.heap.size w w' := by
  have P0 := Lib.hid (RdSU.mk' h0); clear h0
  have P1 := Lib.hid (RdU.mk' h1); clear h1
  have P2 := Lib.hid (RdU.mk' h2); clear h2
  go_enter Try.func6, Try.ntmps6
  go_wp2_with fail
  refine (szMachine_c _ _ _ _ _ xs0 _ _ hb0_0 (by omega) (by omega)).mono ?_
  rintro e w1 ⟨rfl, hb⟩
  have hb' : Below w.heap.size w w1 := (by first | (with_reducible exact hb) | (with_reducible exact up1 hb) | (with_reducible exact up2 hb) | (with_reducible exact up3 hb) | (with_reducible exact up4 hb) | (with_reducible exact below_of_drew hb) | (with_reducible exact below_of_drew (up1 hb)))
  have z1 := hb'.size
  have c1_a0_0 : w1.cell? ⟨w.heap.size, 0, none⟩ = some (.int .i64 sy0) := keepc hb (by first | (simp; done) | (rw [World.cell?_alloc_past _ _ _ (by simp <;> omega)]; simp; done) | (rw [World.cell?_alloc_past _ _ _ (by simp <;> omega), World.cell?_alloc_past _ _ _ (by simp <;> omega)]; simp; done) | (rw [World.cell?_alloc_past _ _ _ (by simp <;> omega), World.cell?_alloc_past _ _ _ (by simp <;> omega), World.cell?_alloc_past _ _ _ (by simp <;> omega)]; simp; done) | (rw [World.cell?_alloc_at _ _ _ _ (by simp)]; simp; done) | (rw [World.cell?_alloc_past _ _ _ (by simp <;> omega), World.cell?_alloc_at _ _ _ _ (by simp)]; simp; done) | (rw [World.cell?_alloc_past _ _ _ (by simp <;> omega), World.cell?_alloc_past _ _ _ (by simp <;> omega), World.cell?_alloc_at _ _ _ _ (by simp)]; simp; done) | (rw [World.cell?_alloc_past _ _ _ (by simp <;> omega), World.cell?_alloc_past _ _ _ (by simp <;> omega), World.cell?_alloc_past _ _ _ (by simp <;> omega), World.cell?_alloc_at _ _ _ _ (by simp)]; simp; done))
  have hl_c1_a0_0 : w.heap.size < w1.heap.size := World.block_lt_of_cell? w1 _ c1_a0_0
  have c1_a0_1 : w1.cell? ⟨w.heap.size, 1, none⟩ = some (.int .i64 st0) := keepc hb (by first | (simp; done) | (rw [World.cell?_alloc_past _ _ _ (by simp <;> omega)]; simp; done) | (rw [World.cell?_alloc_past _ _ _ (by simp <;> omega), World.cell?_alloc_past _ _ _ (by simp <;> omega)]; simp; done) | (rw [World.cell?_alloc_past _ _ _ (by simp <;> omega), World.cell?_alloc_past _ _ _ (by simp <;> omega), World.cell?_alloc_past _ _ _ (by simp <;> omega)]; simp; done) | (rw [World.cell?_alloc_at _ _ _ _ (by simp)]; simp; done) | (rw [World.cell?_alloc_past _ _ _ (by simp <;> omega), World.cell?_alloc_at _ _ _ _ (by simp)]; simp; done) | (rw [World.cell?_alloc_past _ _ _ (by simp <;> omega), World.cell?_alloc_past _ _ _ (by simp <;> omega), World.cell?_alloc_at _ _ _ _ (by simp)]; simp; done) | (rw [World.cell?_alloc_past _ _ _ (by simp <;> omega), World.cell?_alloc_past _ _ _ (by simp <;> omega), World.cell?_alloc_past _ _ _ (by simp <;> omega), World.cell?_alloc_at _ _ _ _ (by simp)]; simp; done))
  have c1_a0_2 : w1.cell? ⟨w.heap.size, 2, none⟩ = some (.slice A0 n0 c0) := keepc hb (by first | (simp; done) | (rw [World.cell?_alloc_past _ _ _ (by simp <;> omega)]; simp; done) | (rw [World.cell?_alloc_past _ _ _ (by simp <;> omega), World.cell?_alloc_past _ _ _ (by simp <;> omega)]; simp; done) | (rw [World.cell?_alloc_past _ _ _ (by simp <;> omega), World.cell?_alloc_past _ _ _ (by simp <;> omega), World.cell?_alloc_past _ _ _ (by simp <;> omega)]; simp; done) | (rw [World.cell?_alloc_at _ _ _ _ (by simp)]; simp; done) | (rw [World.cell?_alloc_past _ _ _ (by simp <;> omega), World.cell?_alloc_at _ _ _ _ (by simp)]; simp; done) | (rw [World.cell?_alloc_past _ _ _ (by simp <;> omega), World.cell?_alloc_past _ _ _ (by simp <;> omega), World.cell?_alloc_at _ _ _ _ (by simp)]; simp; done) | (rw [World.cell?_alloc_past _ _ _ (by simp <;> omega), World.cell?_alloc_past _ _ _ (by simp <;> omega), World.cell?_alloc_past _ _ _ (by simp <;> omega), World.cell?_alloc_at _ _ _ _ (by simp)]; simp; done))
  have c1_a1_0 : w1.cell? ⟨(w.heap.size + 1), 0, none⟩ = some (.int .i64 st1) := keepc hb (by first | (simp; done) | (rw [World.cell?_alloc_past _ _ _ (by simp <;> omega)]; simp; done) | (rw [World.cell?_alloc_past _ _ _ (by simp <;> omega), World.cell?_alloc_past _ _ _ (by simp <;> omega)]; simp; done) | (rw [World.cell?_alloc_past _ _ _ (by simp <;> omega), World.cell?_alloc_past _ _ _ (by simp <;> omega), World.cell?_alloc_past _ _ _ (by simp <;> omega)]; simp; done) | (rw [World.cell?_alloc_at _ _ _ _ (by simp)]; simp; done) | (rw [World.cell?_alloc_past _ _ _ (by simp <;> omega), World.cell?_alloc_at _ _ _ _ (by simp)]; simp; done) | (rw [World.cell?_alloc_past _ _ _ (by simp <;> omega), World.cell?_alloc_past _ _ _ (by simp <;> omega), World.cell?_alloc_at _ _ _ _ (by simp)]; simp; done) | (rw [World.cell?_alloc_past _ _ _ (by simp <;> omega), World.cell?_alloc_past _ _ _ (by simp <;> omega), World.cell?_alloc_past _ _ _ (by simp <;> omega), World.cell?_alloc_at _ _ _ _ (by simp)]; simp; done))
  have hl_c1_a1_0 : (w.heap.size + 1) < w1.heap.size := World.block_lt_of_cell? w1 _ c1_a1_0
  have c1_a1_1 : w1.cell? ⟨(w.heap.size + 1), 1, none⟩ = some (.slice A1 n1 c1) := keepc hb (by first | (simp; done) | (rw [World.cell?_alloc_past _ _ _ (by simp <;> omega)]; simp; done) | (rw [World.cell?_alloc_past _ _ _ (by simp <;> omega), World.cell?_alloc_past _ _ _ (by simp <;> omega)]; simp; done) | (rw [World.cell?_alloc_past _ _ _ (by simp <;> omega), World.cell?_alloc_past _ _ _ (by simp <;> omega), World.cell?_alloc_past _ _ _ (by simp <;> omega)]; simp; done) | (rw [World.cell?_alloc_at _ _ _ _ (by simp)]; simp; done) | (rw [World.cell?_alloc_past _ _ _ (by simp <;> omega), World.cell?_alloc_at _ _ _ _ (by simp)]; simp; done) | (rw [World.cell?_alloc_past _ _ _ (by simp <;> omega), World.cell?_alloc_past _ _ _ (by simp <;> omega), World.cell?_alloc_at _ _ _ _ (by simp)]; simp; done) | (rw [World.cell?_alloc_past _ _ _ (by simp <;> omega), World.cell?_alloc_past _ _ _ (by simp <;> omega), World.cell?_alloc_past _ _ _ (by simp <;> omega), World.cell?_alloc_at _ _ _ _ (by simp)]; simp; done))
  have c1_a2_0 : w1.cell? ⟨(w.heap.size + 1 + 1), 0, none⟩ = some (.int .i64 st2) := keepc hb (by first | (simp; done) | (rw [World.cell?_alloc_past _ _ _ (by simp <;> omega)]; simp; done) | (rw [World.cell?_alloc_past _ _ _ (by simp <;> omega), World.cell?_alloc_past _ _ _ (by simp <;> omega)]; simp; done) | (rw [World.cell?_alloc_past _ _ _ (by simp <;> omega), World.cell?_alloc_past _ _ _ (by simp <;> omega), World.cell?_alloc_past _ _ _ (by simp <;> omega)]; simp; done) | (rw [World.cell?_alloc_at _ _ _ _ (by simp)]; simp; done) | (rw [World.cell?_alloc_past _ _ _ (by simp <;> omega), World.cell?_alloc_at _ _ _ _ (by simp)]; simp; done) | (rw [World.cell?_alloc_past _ _ _ (by simp <;> omega), World.cell?_alloc_past _ _ _ (by simp <;> omega), World.cell?_alloc_at _ _ _ _ (by simp)]; simp; done) | (rw [World.cell?_alloc_past _ _ _ (by simp <;> omega), World.cell?_alloc_past _ _ _ (by simp <;> omega), World.cell?_alloc_past _ _ _ (by simp <;> omega), World.cell?_alloc_at _ _ _ _ (by simp)]; simp; done))
  have hl_c1_a2_0 : (w.heap.size + 1 + 1) < w1.heap.size := World.block_lt_of_cell? w1 _ c1_a2_0
  have c1_a2_1 : w1.cell? ⟨(w.heap.size + 1 + 1), 1, none⟩ = some (.slice A2 n2 c2) := keepc hb (by first | (simp; done) | (rw [World.cell?_alloc_past _ _ _ (by simp <;> omega)]; simp; done) | (rw [World.cell?_alloc_past _ _ _ (by simp <;> omega), World.cell?_alloc_past _ _ _ (by simp <;> omega)]; simp; done) | (rw [World.cell?_alloc_past _ _ _ (by simp <;> omega), World.cell?_alloc_past _ _ _ (by simp <;> omega), World.cell?_alloc_past _ _ _ (by simp <;> omega)]; simp; done) | (rw [World.cell?_alloc_at _ _ _ _ (by simp)]; simp; done) | (rw [World.cell?_alloc_past _ _ _ (by simp <;> omega), World.cell?_alloc_at _ _ _ _ (by simp)]; simp; done) | (rw [World.cell?_alloc_past _ _ _ (by simp <;> omega), World.cell?_alloc_past _ _ _ (by simp <;> omega), World.cell?_alloc_at _ _ _ _ (by simp)]; simp; done) | (rw [World.cell?_alloc_past _ _ _ (by simp <;> omega), World.cell?_alloc_past _ _ _ (by simp <;> omega), World.cell?_alloc_past _ _ _ (by simp <;> omega), World.cell?_alloc_at _ _ _ _ (by simp)]; simp; done))
  have ac1_a0_0 := fun o => keepa o c1_a0_0
  have ac1_a0_1 := fun o => keepa o c1_a0_1
  have ac1_a0_2 := fun o => keepa o c1_a0_2
  have ac1_a1_0 := fun o => keepa o c1_a1_0
  have ac1_a1_1 := fun o => keepa o c1_a1_1
  have ac1_a2_0 := fun o => keepa o c1_a2_0
  have ac1_a2_1 := fun o => keepa o c1_a2_1
  have rP0 := P0.out.below hb'; clear P0; have P0 := Lib.hid rP0; clear rP0
  have rP1 := P1.out.below hb'; clear P1; have P1 := Lib.hid rP1; clear rP1
  have rP2 := P2.out.below hb'; clear P2; have P2 := Lib.hid rP2; clear rP2
  have rB := hb'; have B := Lib.hid rB; clear rB
  clear hb hb'
  by_cases hs1 : 1048576 < n0
  · rw [szOf_neg' (by omega)]
    go_wp2
    go_ret
    exact ⟨rfl, B.out⟩
  rw [szOf_pos' (by omega)]
  have hs1' : (0 : Int) ≤ 1048576 - (n0 : Nat) := by omega
  go_wp2_with fail
  refine (szDfa_c _ _ _ _ _ _ hb1 (by omega) (by omega)).mono ?_
  rintro e w2 ⟨rfl, hb⟩
  have hb' : Below w1.heap.size w1 w2 := (by first | (with_reducible exact hb) | (with_reducible exact up1 hb) | (with_reducible exact up2 hb) | (with_reducible exact up3 hb) | (with_reducible exact up4 hb) | (with_reducible exact below_of_drew hb) | (with_reducible exact below_of_drew (up1 hb)))
  have z2 := hb'.size
  have c2_a0_0 : w2.cell? ⟨w.heap.size, 0, none⟩ = some (.int .i64 sy0) := keepc hb' c1_a0_0
  clear c1_a0_0 ac1_a0_0
  have c2_a0_1 : w2.cell? ⟨w.heap.size, 1, none⟩ = some (.int .i64 st0) := keepc hb' c1_a0_1
  clear c1_a0_1 ac1_a0_1
  have c2_a0_2 : w2.cell? ⟨w.heap.size, 2, none⟩ = some (.slice A0 n0 c0) := keepc hb' c1_a0_2
  clear c1_a0_2 ac1_a0_2
  have c2_a1_0 : w2.cell? ⟨(w.heap.size + 1), 0, none⟩ = some (.int .i64 st1) := keepc hb' c1_a1_0
  clear c1_a1_0 ac1_a1_0
  have c2_a1_1 : w2.cell? ⟨(w.heap.size + 1), 1, none⟩ = some (.slice A1 n1 c1) := keepc hb' c1_a1_1
  clear c1_a1_1 ac1_a1_1
  have c2_a2_0 : w2.cell? ⟨(w.heap.size + 1 + 1), 0, none⟩ = some (.int .i64 st2) := keepc hb' c1_a2_0
  clear c1_a2_0 ac1_a2_0
  have c2_a2_1 : w2.cell? ⟨(w.heap.size + 1 + 1), 1, none⟩ = some (.slice A2 n2 c2) := keepc hb' c1_a2_1
  clear c1_a2_1 ac1_a2_1
  have ac2_a0_0 := fun o => keepa o c2_a0_0
  have ac2_a0_1 := fun o => keepa o c2_a0_1
  have ac2_a0_2 := fun o => keepa o c2_a0_2
  have ac2_a1_0 := fun o => keepa o c2_a1_0
  have ac2_a1_1 := fun o => keepa o c2_a1_1
  have ac2_a2_0 := fun o => keepa o c2_a2_0
  have ac2_a2_1 := fun o => keepa o c2_a2_1
  have rP0 := P0.out.below hb'; clear P0; have P0 := Lib.hid rP0; clear rP0
  have rP1 := P1.out.below hb'; clear P1; have P1 := Lib.hid rP1; clear rP1
  have rP2 := P2.out.below hb'; clear P2; have P2 := Lib.hid rP2; clear rP2
  have rB := below_chain B.out (by omega) hb'; clear B; have B := Lib.hid rB; clear rB
  clear hb hb'
  by_cases hs2 : 1048576 - (n0 : Nat) < n1
  · rw [szOf_neg' (by omega)]
    go_wp2
    go_ret
    exact ⟨rfl, B.out⟩
  rw [szOf_pos' (by omega)]
  have hs2' : (0 : Int) ≤ 1048576 - (n0 : Nat) - (n1 : Nat) := by omega
  go_wp2_with fail
  refine (szDfa_c _ _ _ _ _ _ hb2 (by omega) (by omega)).mono ?_
  rintro e w3 ⟨rfl, hb⟩
  have hb' : Below w2.heap.size w2 w3 := (by first | (with_reducible exact hb) | (with_reducible exact up1 hb) | (with_reducible exact up2 hb) | (with_reducible exact up3 hb) | (with_reducible exact up4 hb) | (with_reducible exact below_of_drew hb) | (with_reducible exact below_of_drew (up1 hb)))
  have z3 := hb'.size
  have c3_a0_0 : w3.cell? ⟨w.heap.size, 0, none⟩ = some (.int .i64 sy0) := keepc hb' c2_a0_0
  clear c2_a0_0 ac2_a0_0
  have c3_a0_1 : w3.cell? ⟨w.heap.size, 1, none⟩ = some (.int .i64 st0) := keepc hb' c2_a0_1
  clear c2_a0_1 ac2_a0_1
  have c3_a0_2 : w3.cell? ⟨w.heap.size, 2, none⟩ = some (.slice A0 n0 c0) := keepc hb' c2_a0_2
  clear c2_a0_2 ac2_a0_2
  have c3_a1_0 : w3.cell? ⟨(w.heap.size + 1), 0, none⟩ = some (.int .i64 st1) := keepc hb' c2_a1_0
  clear c2_a1_0 ac2_a1_0
  have c3_a1_1 : w3.cell? ⟨(w.heap.size + 1), 1, none⟩ = some (.slice A1 n1 c1) := keepc hb' c2_a1_1
  clear c2_a1_1 ac2_a1_1
  have c3_a2_0 : w3.cell? ⟨(w.heap.size + 1 + 1), 0, none⟩ = some (.int .i64 st2) := keepc hb' c2_a2_0
  clear c2_a2_0 ac2_a2_0
  have c3_a2_1 : w3.cell? ⟨(w.heap.size + 1 + 1), 1, none⟩ = some (.slice A2 n2 c2) := keepc hb' c2_a2_1
  clear c2_a2_1 ac2_a2_1
  have ac3_a0_0 := fun o => keepa o c3_a0_0
  have ac3_a0_1 := fun o => keepa o c3_a0_1
  have ac3_a0_2 := fun o => keepa o c3_a0_2
  have ac3_a1_0 := fun o => keepa o c3_a1_0
  have ac3_a1_1 := fun o => keepa o c3_a1_1
  have ac3_a2_0 := fun o => keepa o c3_a2_0
  have ac3_a2_1 := fun o => keepa o c3_a2_1
  have rP0 := P0.out.below hb'; clear P0; have P0 := Lib.hid rP0; clear rP0
  have rP1 := P1.out.below hb'; clear P1; have P1 := Lib.hid rP1; clear rP1
  have rP2 := P2.out.below hb'; clear P2; have P2 := Lib.hid rP2; clear rP2
  have rB := below_chain B.out (by omega) hb'; clear B; have B := Lib.hid rB; clear rB
  clear hb hb'
  by_cases hs3 : 1048576 - (n0 : Nat) - (n1 : Nat) < n2
  · rw [szOf_neg' (by omega)]
    go_wp2
    go_ret
    exact ⟨rfl, B.out⟩
  rw [szOf_pos' (by omega)]
  have hs3' : (0 : Int) ≤ 1048576 - (n0 : Nat) - (n1 : Nat) - (n2 : Nat) := by omega
  go_wp2_with fail
  have fx_c3_a0_0 := Ext.cell c3_a0_0
  have fx_c3_a0_1 := Ext.cell c3_a0_1
  have fx_c3_a0_2 := Ext.cell c3_a0_2
  have fx_c3_a1_0 := Ext.cell c3_a1_0
  have fx_c3_a1_1 := Ext.cell c3_a1_1
  have fx_c3_a2_0 := Ext.cell c3_a2_0
  have fx_c3_a2_1 := Ext.cell c3_a2_1
  refine Mix.wp_region_mix [3, 1, 3, 1, 3, 1, 1, 0] (fun w' => ∃ x : Ext w3, w' = x.w) (by kernel_rfl) (by kernel_rfl) (InExt.drew _) ?_
  repeat (first | (refine Mix.wpMix_read (by rfl) ?_; go_big_quiet_step (fail); refine wpQuiet_nil ?_) | (refine Mix.wpMix_pure (by rfl) ?_; go_big_quiet_step (fail); refine wpQuiet_nil ?_))
  refine Mix.wpMix_chg (by rfl) (fun K hK => ?_)
  go_wp2_with fail
  refine (toMachine_c _ _ _ _ _ _ _ (by exact (P0.out.rd)) (by omega)).mono ?_
  rintro e w4 ⟨g011, rfl, q4, hb⟩
  have hb' : Below w3.heap.size w3 w4 := (by first | (with_reducible exact hb) | (with_reducible exact up1 hb) | (with_reducible exact up2 hb) | (with_reducible exact up3 hb) | (with_reducible exact up4 hb) | (with_reducible exact below_of_drew hb) | (with_reducible exact below_of_drew (up1 hb)))
  have z4 := hb'.size
  have c4_a0_0 : w4.cell? ⟨w.heap.size, 0, none⟩ = some (.int .i64 sy0) := keepc hb' c3_a0_0
  clear c3_a0_0 ac3_a0_0
  have c4_a0_1 : w4.cell? ⟨w.heap.size, 1, none⟩ = some (.int .i64 st0) := keepc hb' c3_a0_1
  clear c3_a0_1 ac3_a0_1
  have c4_a0_2 : w4.cell? ⟨w.heap.size, 2, none⟩ = some (.slice A0 n0 c0) := keepc hb' c3_a0_2
  clear c3_a0_2 ac3_a0_2
  have c4_a1_0 : w4.cell? ⟨(w.heap.size + 1), 0, none⟩ = some (.int .i64 st1) := keepc hb' c3_a1_0
  clear c3_a1_0 ac3_a1_0
  have c4_a1_1 : w4.cell? ⟨(w.heap.size + 1), 1, none⟩ = some (.slice A1 n1 c1) := keepc hb' c3_a1_1
  clear c3_a1_1 ac3_a1_1
  have c4_a2_0 : w4.cell? ⟨(w.heap.size + 1 + 1), 0, none⟩ = some (.int .i64 st2) := keepc hb' c3_a2_0
  clear c3_a2_0 ac3_a2_0
  have c4_a2_1 : w4.cell? ⟨(w.heap.size + 1 + 1), 1, none⟩ = some (.slice A2 n2 c2) := keepc hb' c3_a2_1
  clear c3_a2_1 ac3_a2_1
  have ac4_a0_0 := fun o => keepa o c4_a0_0
  have ac4_a0_1 := fun o => keepa o c4_a0_1
  have ac4_a0_2 := fun o => keepa o c4_a0_2
  have ac4_a1_0 := fun o => keepa o c4_a1_0
  have ac4_a1_1 := fun o => keepa o c4_a1_1
  have ac4_a2_0 := fun o => keepa o c4_a2_0
  have ac4_a2_1 := fun o => keepa o c4_a2_1
  have rP0 := P0.out.below hb'; clear P0; have P0 := Lib.hid rP0; clear rP0
  have rP1 := P1.out.below hb'; clear P1; have P1 := Lib.hid rP1; clear rP1
  have rP2 := P2.out.below hb'; clear P2; have P2 := Lib.hid rP2; clear rP2
  have rB := below_chain B.out (by omega) hb'; clear B; have B := Lib.hid rB; clear rB
  have Fo12 := Lib.hid q4; clear q4
  have em4 : Below w3.heap.size w3 w4 := hb'
  clear hb hb'
  go_wp2_with fail
  refine hK _ _ ⟨⟨_, em4⟩, rfl⟩ ?_
  clear hK K
  repeat (first | (refine Mix.wpMix_read (by rfl) ?_; go_big_quiet_step (fail); refine wpQuiet_nil ?_) | (refine Mix.wpMix_pure (by rfl) ?_; go_big_quiet_step (fail); refine wpQuiet_nil ?_))
  refine Mix.wpMix_chg (by rfl) (fun K hK => ?_)
  go_wp2_with fail
  refine (toDfa_c _ _ _ _ _ _ (by exact (P1.out.1)) (by omega)).mono ?_
  rintro e w5 ⟨g13, rfl, q5, hb⟩
  have hb' : Below w4.heap.size w4 w5 := (by first | (with_reducible exact hb) | (with_reducible exact up1 hb) | (with_reducible exact up2 hb) | (with_reducible exact up3 hb) | (with_reducible exact up4 hb) | (with_reducible exact below_of_drew hb) | (with_reducible exact below_of_drew (up1 hb)))
  have z5 := hb'.size
  have c5_a0_0 : w5.cell? ⟨w.heap.size, 0, none⟩ = some (.int .i64 sy0) := keepc hb' c4_a0_0
  clear c4_a0_0 ac4_a0_0
  have c5_a0_1 : w5.cell? ⟨w.heap.size, 1, none⟩ = some (.int .i64 st0) := keepc hb' c4_a0_1
  clear c4_a0_1 ac4_a0_1
  have c5_a0_2 : w5.cell? ⟨w.heap.size, 2, none⟩ = some (.slice A0 n0 c0) := keepc hb' c4_a0_2
  clear c4_a0_2 ac4_a0_2
  have c5_a1_0 : w5.cell? ⟨(w.heap.size + 1), 0, none⟩ = some (.int .i64 st1) := keepc hb' c4_a1_0
  clear c4_a1_0 ac4_a1_0
  have c5_a1_1 : w5.cell? ⟨(w.heap.size + 1), 1, none⟩ = some (.slice A1 n1 c1) := keepc hb' c4_a1_1
  clear c4_a1_1 ac4_a1_1
  have c5_a2_0 : w5.cell? ⟨(w.heap.size + 1 + 1), 0, none⟩ = some (.int .i64 st2) := keepc hb' c4_a2_0
  clear c4_a2_0 ac4_a2_0
  have c5_a2_1 : w5.cell? ⟨(w.heap.size + 1 + 1), 1, none⟩ = some (.slice A2 n2 c2) := keepc hb' c4_a2_1
  clear c4_a2_1 ac4_a2_1
  have ac5_a0_0 := fun o => keepa o c5_a0_0
  have ac5_a0_1 := fun o => keepa o c5_a0_1
  have ac5_a0_2 := fun o => keepa o c5_a0_2
  have ac5_a1_0 := fun o => keepa o c5_a1_0
  have ac5_a1_1 := fun o => keepa o c5_a1_1
  have ac5_a2_0 := fun o => keepa o c5_a2_0
  have ac5_a2_1 := fun o => keepa o c5_a2_1
  have rP0 := P0.out.below hb'; clear P0; have P0 := Lib.hid rP0; clear rP0
  have rP1 := P1.out.below hb'; clear P1; have P1 := Lib.hid rP1; clear rP1
  have rP2 := P2.out.below hb'; clear P2; have P2 := Lib.hid rP2; clear rP2
  have rFo12 := Fo12.out.below hb'; clear Fo12; have Fo12 := Lib.hid rFo12; clear rFo12
  have rB := below_chain B.out (by omega) hb'; clear B; have B := Lib.hid rB; clear rB
  have Fo14 := Lib.hid q5; clear q5
  have em5 : Below w3.heap.size w3 w5 := below_chain em4 (by omega) hb'
  clear hb hb'
  go_wp2_with fail
  refine hK _ _ ⟨⟨_, em5⟩, rfl⟩ ?_
  clear hK K
  repeat (first | (refine Mix.wpMix_read (by rfl) ?_; go_big_quiet_step (fail); refine wpQuiet_nil ?_) | (refine Mix.wpMix_pure (by rfl) ?_; go_big_quiet_step (fail); refine wpQuiet_nil ?_))
  refine Mix.wpMix_chg (by rfl) (fun K hK => ?_)
  go_wp2_with fail
  refine (toDfa_c _ _ _ _ _ _ (by exact (P2.out.1)) (by omega)).mono ?_
  rintro e w6 ⟨g15, rfl, q6, hb⟩
  have hb' : Below w5.heap.size w5 w6 := (by first | (with_reducible exact hb) | (with_reducible exact up1 hb) | (with_reducible exact up2 hb) | (with_reducible exact up3 hb) | (with_reducible exact up4 hb) | (with_reducible exact below_of_drew hb) | (with_reducible exact below_of_drew (up1 hb)))
  have z6 := hb'.size
  have c6_a0_0 : w6.cell? ⟨w.heap.size, 0, none⟩ = some (.int .i64 sy0) := keepc hb' c5_a0_0
  clear c5_a0_0 ac5_a0_0
  have c6_a0_1 : w6.cell? ⟨w.heap.size, 1, none⟩ = some (.int .i64 st0) := keepc hb' c5_a0_1
  clear c5_a0_1 ac5_a0_1
  have c6_a0_2 : w6.cell? ⟨w.heap.size, 2, none⟩ = some (.slice A0 n0 c0) := keepc hb' c5_a0_2
  clear c5_a0_2 ac5_a0_2
  have c6_a1_0 : w6.cell? ⟨(w.heap.size + 1), 0, none⟩ = some (.int .i64 st1) := keepc hb' c5_a1_0
  clear c5_a1_0 ac5_a1_0
  have c6_a1_1 : w6.cell? ⟨(w.heap.size + 1), 1, none⟩ = some (.slice A1 n1 c1) := keepc hb' c5_a1_1
  clear c5_a1_1 ac5_a1_1
  have c6_a2_0 : w6.cell? ⟨(w.heap.size + 1 + 1), 0, none⟩ = some (.int .i64 st2) := keepc hb' c5_a2_0
  clear c5_a2_0 ac5_a2_0
  have c6_a2_1 : w6.cell? ⟨(w.heap.size + 1 + 1), 1, none⟩ = some (.slice A2 n2 c2) := keepc hb' c5_a2_1
  clear c5_a2_1 ac5_a2_1
  have ac6_a0_0 := fun o => keepa o c6_a0_0
  have ac6_a0_1 := fun o => keepa o c6_a0_1
  have ac6_a0_2 := fun o => keepa o c6_a0_2
  have ac6_a1_0 := fun o => keepa o c6_a1_0
  have ac6_a1_1 := fun o => keepa o c6_a1_1
  have ac6_a2_0 := fun o => keepa o c6_a2_0
  have ac6_a2_1 := fun o => keepa o c6_a2_1
  have rP0 := P0.out.below hb'; clear P0; have P0 := Lib.hid rP0; clear rP0
  have rP1 := P1.out.below hb'; clear P1; have P1 := Lib.hid rP1; clear rP1
  have rP2 := P2.out.below hb'; clear P2; have P2 := Lib.hid rP2; clear rP2
  have rFo12 := Fo12.out.below hb'; clear Fo12; have Fo12 := Lib.hid rFo12; clear rFo12
  have rFo14 := Fo14.out.below hb'; clear Fo14; have Fo14 := Lib.hid rFo14; clear rFo14
  have rB := below_chain B.out (by omega) hb'; clear B; have B := Lib.hid rB; clear rB
  have Fo16 := Lib.hid q6; clear q6
  have em6 : Below w3.heap.size w3 w6 := below_chain em5 (by omega) hb'
  clear hb hb'
  go_wp2_with fail
  refine hK _ _ ⟨⟨_, em6⟩, rfl⟩ ?_
  clear hK K
  refine Mix.wpMix_chg (by rfl) (fun K hK => ?_)
  go_wp2_with fail
  refine (sAvoidsHalting_c _ _ _ _ _ _ _ _ _ _ _ _ _ _ _ _ _ (by exact (Fo12.out.rd)) (by exact (Fo14.out.rdI)) (by exact (Fo16.out.rdI)) (by omega) (by omega) (by omega)).mono ?_
  rintro e w7 ⟨rfl, hb⟩
  have hb' : Below w6.heap.size w6 w7 := (by first | (with_reducible exact hb) | (with_reducible exact up1 hb) | (with_reducible exact up2 hb) | (with_reducible exact up3 hb) | (with_reducible exact up4 hb) | (with_reducible exact below_of_drew hb) | (with_reducible exact below_of_drew (up1 hb)))
  have z7 := hb'.size
  have c7_a0_0 : w7.cell? ⟨w.heap.size, 0, none⟩ = some (.int .i64 sy0) := keepc hb' c6_a0_0
  clear c6_a0_0 ac6_a0_0
  have c7_a0_1 : w7.cell? ⟨w.heap.size, 1, none⟩ = some (.int .i64 st0) := keepc hb' c6_a0_1
  clear c6_a0_1 ac6_a0_1
  have c7_a0_2 : w7.cell? ⟨w.heap.size, 2, none⟩ = some (.slice A0 n0 c0) := keepc hb' c6_a0_2
  clear c6_a0_2 ac6_a0_2
  have c7_a1_0 : w7.cell? ⟨(w.heap.size + 1), 0, none⟩ = some (.int .i64 st1) := keepc hb' c6_a1_0
  clear c6_a1_0 ac6_a1_0
  have c7_a1_1 : w7.cell? ⟨(w.heap.size + 1), 1, none⟩ = some (.slice A1 n1 c1) := keepc hb' c6_a1_1
  clear c6_a1_1 ac6_a1_1
  have c7_a2_0 : w7.cell? ⟨(w.heap.size + 1 + 1), 0, none⟩ = some (.int .i64 st2) := keepc hb' c6_a2_0
  clear c6_a2_0 ac6_a2_0
  have c7_a2_1 : w7.cell? ⟨(w.heap.size + 1 + 1), 1, none⟩ = some (.slice A2 n2 c2) := keepc hb' c6_a2_1
  clear c6_a2_1 ac6_a2_1
  have ac7_a0_0 := fun o => keepa o c7_a0_0
  have ac7_a0_1 := fun o => keepa o c7_a0_1
  have ac7_a0_2 := fun o => keepa o c7_a0_2
  have ac7_a1_0 := fun o => keepa o c7_a1_0
  have ac7_a1_1 := fun o => keepa o c7_a1_1
  have ac7_a2_0 := fun o => keepa o c7_a2_0
  have ac7_a2_1 := fun o => keepa o c7_a2_1
  have rP0 := P0.out.below hb'; clear P0; have P0 := Lib.hid rP0; clear rP0
  have rP1 := P1.out.below hb'; clear P1; have P1 := Lib.hid rP1; clear rP1
  have rP2 := P2.out.below hb'; clear P2; have P2 := Lib.hid rP2; clear rP2
  have rFo12 := Fo12.out.below hb'; clear Fo12; have Fo12 := Lib.hid rFo12; clear rFo12
  have rFo14 := Fo14.out.below hb'; clear Fo14; have Fo14 := Lib.hid rFo14; clear rFo14
  have rFo16 := Fo16.out.below hb'; clear Fo16; have Fo16 := Lib.hid rFo16; clear rFo16
  have rB := below_chain B.out (by omega) hb'; clear B; have B := Lib.hid rB; clear rB
  have em7 : Below w3.heap.size w3 w7 := below_chain em6 (by omega) hb'
  clear hb hb'
  go_wp2_with fail
  refine hK _ _ ⟨⟨_, em7⟩, rfl⟩ ?_
  clear hK K
  repeat (first | (refine Mix.wpMix_read (by rfl) ?_; go_big_quiet_step (fail); refine wpQuiet_nil ?_) | (refine Mix.wpMix_pure (by rfl) ?_; go_big_quiet_step (fail); refine wpQuiet_nil ?_))
  (refine Mix.wpMix_nil ?_; try simp only [Exit.then])
  clear fx_c3_a0_0
  clear fx_c3_a0_1
  clear fx_c3_a0_2
  clear fx_c3_a1_0
  clear fx_c3_a1_1
  clear fx_c3_a2_0
  clear fx_c3_a2_1
  clear Fo12
  clear Fo14
  clear Fo16
  go_wp2_with fail
  refine (toMachine_c _ _ _ _ _ _ _ (by exact (P0.out.rd)) (by omega)).mono ?_
  rintro e w8 ⟨g017, rfl, q8, hb⟩
  have hb' : Below w7.heap.size w7 w8 := (by first | (with_reducible exact hb) | (with_reducible exact up1 hb) | (with_reducible exact up2 hb) | (with_reducible exact up3 hb) | (with_reducible exact up4 hb) | (with_reducible exact below_of_drew hb) | (with_reducible exact below_of_drew (up1 hb)))
  have z8 := hb'.size
  have c8_a0_0 : w8.cell? ⟨w.heap.size, 0, none⟩ = some (.int .i64 sy0) := keepc hb' c7_a0_0
  clear c7_a0_0 ac7_a0_0
  have c8_a0_1 : w8.cell? ⟨w.heap.size, 1, none⟩ = some (.int .i64 st0) := keepc hb' c7_a0_1
  clear c7_a0_1 ac7_a0_1
  have c8_a0_2 : w8.cell? ⟨w.heap.size, 2, none⟩ = some (.slice A0 n0 c0) := keepc hb' c7_a0_2
  clear c7_a0_2 ac7_a0_2
  have c8_a1_0 : w8.cell? ⟨(w.heap.size + 1), 0, none⟩ = some (.int .i64 st1) := keepc hb' c7_a1_0
  clear c7_a1_0 ac7_a1_0
  have c8_a1_1 : w8.cell? ⟨(w.heap.size + 1), 1, none⟩ = some (.slice A1 n1 c1) := keepc hb' c7_a1_1
  clear c7_a1_1 ac7_a1_1
  have c8_a2_0 : w8.cell? ⟨(w.heap.size + 1 + 1), 0, none⟩ = some (.int .i64 st2) := keepc hb' c7_a2_0
  clear c7_a2_0 ac7_a2_0
  have c8_a2_1 : w8.cell? ⟨(w.heap.size + 1 + 1), 1, none⟩ = some (.slice A2 n2 c2) := keepc hb' c7_a2_1
  clear c7_a2_1 ac7_a2_1
  have ac8_a0_0 := fun o => keepa o c8_a0_0
  have ac8_a0_1 := fun o => keepa o c8_a0_1
  have ac8_a0_2 := fun o => keepa o c8_a0_2
  have ac8_a1_0 := fun o => keepa o c8_a1_0
  have ac8_a1_1 := fun o => keepa o c8_a1_1
  have ac8_a2_0 := fun o => keepa o c8_a2_0
  have ac8_a2_1 := fun o => keepa o c8_a2_1
  have rP0 := P0.out.below hb'; clear P0; have P0 := Lib.hid rP0; clear rP0
  have rP1 := P1.out.below hb'; clear P1; have P1 := Lib.hid rP1; clear rP1
  have rP2 := P2.out.below hb'; clear P2; have P2 := Lib.hid rP2; clear rP2
  have rB := below_chain B.out (by omega) hb'; clear B; have B := Lib.hid rB; clear rB
  have Fo18 := Lib.hid q8; clear q8
  clear hb hb'
  go_wp2_with fail
  refine (toDfa_c _ _ _ _ _ _ (by exact ((P1.out.1).alloc _)) (by omega)).mono ?_
  rintro e w9 ⟨g19, rfl, q9, hb⟩
  try simp only [World.size_alloc] at q9
  have hb' : Below w8.heap.size w8 w9 := (by first | (with_reducible exact hb) | (with_reducible exact up1 hb) | (with_reducible exact up2 hb) | (with_reducible exact up3 hb) | (with_reducible exact up4 hb) | (with_reducible exact below_of_drew hb) | (with_reducible exact below_of_drew (up1 hb)))
  have z9 := hb'.size
  have c9_a0_0 : w9.cell? ⟨w.heap.size, 0, none⟩ = some (.int .i64 sy0) := keepc hb' c8_a0_0
  clear c8_a0_0 ac8_a0_0
  have c9_a0_1 : w9.cell? ⟨w.heap.size, 1, none⟩ = some (.int .i64 st0) := keepc hb' c8_a0_1
  clear c8_a0_1 ac8_a0_1
  have c9_a0_2 : w9.cell? ⟨w.heap.size, 2, none⟩ = some (.slice A0 n0 c0) := keepc hb' c8_a0_2
  clear c8_a0_2 ac8_a0_2
  have c9_a1_0 : w9.cell? ⟨(w.heap.size + 1), 0, none⟩ = some (.int .i64 st1) := keepc hb' c8_a1_0
  clear c8_a1_0 ac8_a1_0
  have c9_a1_1 : w9.cell? ⟨(w.heap.size + 1), 1, none⟩ = some (.slice A1 n1 c1) := keepc hb' c8_a1_1
  clear c8_a1_1 ac8_a1_1
  have c9_a2_0 : w9.cell? ⟨(w.heap.size + 1 + 1), 0, none⟩ = some (.int .i64 st2) := keepc hb' c8_a2_0
  clear c8_a2_0 ac8_a2_0
  have c9_a2_1 : w9.cell? ⟨(w.heap.size + 1 + 1), 1, none⟩ = some (.slice A2 n2 c2) := keepc hb' c8_a2_1
  clear c8_a2_1 ac8_a2_1
  have c9_o18_0 : w9.cell? ⟨w8.heap.size, 0, none⟩ = some (.int .i64 sy0) := keepc hb (by first | (simp; done) | (rw [World.cell?_alloc_past _ _ _ (by simp <;> omega)]; simp; done) | (rw [World.cell?_alloc_past _ _ _ (by simp <;> omega), World.cell?_alloc_past _ _ _ (by simp <;> omega)]; simp; done) | (rw [World.cell?_alloc_past _ _ _ (by simp <;> omega), World.cell?_alloc_past _ _ _ (by simp <;> omega), World.cell?_alloc_past _ _ _ (by simp <;> omega)]; simp; done) | (rw [World.cell?_alloc_at _ _ _ _ (by simp)]; simp; done) | (rw [World.cell?_alloc_past _ _ _ (by simp <;> omega), World.cell?_alloc_at _ _ _ _ (by simp)]; simp; done) | (rw [World.cell?_alloc_past _ _ _ (by simp <;> omega), World.cell?_alloc_past _ _ _ (by simp <;> omega), World.cell?_alloc_at _ _ _ _ (by simp)]; simp; done) | (rw [World.cell?_alloc_past _ _ _ (by simp <;> omega), World.cell?_alloc_past _ _ _ (by simp <;> omega), World.cell?_alloc_past _ _ _ (by simp <;> omega), World.cell?_alloc_at _ _ _ _ (by simp)]; simp; done))
  have hl_c9_o18_0 : w8.heap.size < w9.heap.size := World.block_lt_of_cell? w9 _ c9_o18_0
  have c9_o18_1 : w9.cell? ⟨w8.heap.size, 1, none⟩ = some (.int .i64 st0) := keepc hb (by first | (simp; done) | (rw [World.cell?_alloc_past _ _ _ (by simp <;> omega)]; simp; done) | (rw [World.cell?_alloc_past _ _ _ (by simp <;> omega), World.cell?_alloc_past _ _ _ (by simp <;> omega)]; simp; done) | (rw [World.cell?_alloc_past _ _ _ (by simp <;> omega), World.cell?_alloc_past _ _ _ (by simp <;> omega), World.cell?_alloc_past _ _ _ (by simp <;> omega)]; simp; done) | (rw [World.cell?_alloc_at _ _ _ _ (by simp)]; simp; done) | (rw [World.cell?_alloc_past _ _ _ (by simp <;> omega), World.cell?_alloc_at _ _ _ _ (by simp)]; simp; done) | (rw [World.cell?_alloc_past _ _ _ (by simp <;> omega), World.cell?_alloc_past _ _ _ (by simp <;> omega), World.cell?_alloc_at _ _ _ _ (by simp)]; simp; done) | (rw [World.cell?_alloc_past _ _ _ (by simp <;> omega), World.cell?_alloc_past _ _ _ (by simp <;> omega), World.cell?_alloc_past _ _ _ (by simp <;> omega), World.cell?_alloc_at _ _ _ _ (by simp)]; simp; done))
  have c9_o18_2 : w9.cell? ⟨w8.heap.size, 2, none⟩ = some (.slice (some ⟨g017, 0, none⟩) n0 n0) := keepc hb (by first | (simp; done) | (rw [World.cell?_alloc_past _ _ _ (by simp <;> omega)]; simp; done) | (rw [World.cell?_alloc_past _ _ _ (by simp <;> omega), World.cell?_alloc_past _ _ _ (by simp <;> omega)]; simp; done) | (rw [World.cell?_alloc_past _ _ _ (by simp <;> omega), World.cell?_alloc_past _ _ _ (by simp <;> omega), World.cell?_alloc_past _ _ _ (by simp <;> omega)]; simp; done) | (rw [World.cell?_alloc_at _ _ _ _ (by simp)]; simp; done) | (rw [World.cell?_alloc_past _ _ _ (by simp <;> omega), World.cell?_alloc_at _ _ _ _ (by simp)]; simp; done) | (rw [World.cell?_alloc_past _ _ _ (by simp <;> omega), World.cell?_alloc_past _ _ _ (by simp <;> omega), World.cell?_alloc_at _ _ _ _ (by simp)]; simp; done) | (rw [World.cell?_alloc_past _ _ _ (by simp <;> omega), World.cell?_alloc_past _ _ _ (by simp <;> omega), World.cell?_alloc_past _ _ _ (by simp <;> omega), World.cell?_alloc_at _ _ _ _ (by simp)]; simp; done))
  have ac9_a0_0 := fun o => keepa o c9_a0_0
  have ac9_a0_1 := fun o => keepa o c9_a0_1
  have ac9_a0_2 := fun o => keepa o c9_a0_2
  have ac9_a1_0 := fun o => keepa o c9_a1_0
  have ac9_a1_1 := fun o => keepa o c9_a1_1
  have ac9_a2_0 := fun o => keepa o c9_a2_0
  have ac9_a2_1 := fun o => keepa o c9_a2_1
  have ac9_o18_0 := fun o => keepa o c9_o18_0
  have ac9_o18_1 := fun o => keepa o c9_o18_1
  have ac9_o18_2 := fun o => keepa o c9_o18_2
  have rP0 := P0.out.below hb'; clear P0; have P0 := Lib.hid rP0; clear rP0
  have rP1 := P1.out.below hb'; clear P1; have P1 := Lib.hid rP1; clear rP1
  have rP2 := P2.out.below hb'; clear P2; have P2 := Lib.hid rP2; clear rP2
  have rFo18 := Fo18.out.below hb'; clear Fo18; have Fo18 := Lib.hid rFo18; clear rFo18
  have rB := below_chain B.out (by omega) hb'; clear B; have B := Lib.hid rB; clear rB
  have Fo20 := Lib.hid q9; clear q9
  clear hb hb'
  go_wp2_with fail
  refine (toDfa_c _ _ _ _ _ _ (by exact ((P2.out.1).alloc _)) (by omega)).mono ?_
  rintro e w10 ⟨g21, rfl, q10, hb⟩
  try simp only [World.size_alloc] at q10
  have hb' : Below w9.heap.size w9 w10 := (by first | (with_reducible exact hb) | (with_reducible exact up1 hb) | (with_reducible exact up2 hb) | (with_reducible exact up3 hb) | (with_reducible exact up4 hb) | (with_reducible exact below_of_drew hb) | (with_reducible exact below_of_drew (up1 hb)))
  have z10 := hb'.size
  have c10_a0_0 : w10.cell? ⟨w.heap.size, 0, none⟩ = some (.int .i64 sy0) := keepc hb' c9_a0_0
  clear c9_a0_0 ac9_a0_0
  have c10_a0_1 : w10.cell? ⟨w.heap.size, 1, none⟩ = some (.int .i64 st0) := keepc hb' c9_a0_1
  clear c9_a0_1 ac9_a0_1
  have c10_a0_2 : w10.cell? ⟨w.heap.size, 2, none⟩ = some (.slice A0 n0 c0) := keepc hb' c9_a0_2
  clear c9_a0_2 ac9_a0_2
  have c10_a1_0 : w10.cell? ⟨(w.heap.size + 1), 0, none⟩ = some (.int .i64 st1) := keepc hb' c9_a1_0
  clear c9_a1_0 ac9_a1_0
  have c10_a1_1 : w10.cell? ⟨(w.heap.size + 1), 1, none⟩ = some (.slice A1 n1 c1) := keepc hb' c9_a1_1
  clear c9_a1_1 ac9_a1_1
  have c10_a2_0 : w10.cell? ⟨(w.heap.size + 1 + 1), 0, none⟩ = some (.int .i64 st2) := keepc hb' c9_a2_0
  clear c9_a2_0 ac9_a2_0
  have c10_a2_1 : w10.cell? ⟨(w.heap.size + 1 + 1), 1, none⟩ = some (.slice A2 n2 c2) := keepc hb' c9_a2_1
  clear c9_a2_1 ac9_a2_1
  have c10_o18_0 : w10.cell? ⟨w8.heap.size, 0, none⟩ = some (.int .i64 sy0) := keepc hb' c9_o18_0
  clear c9_o18_0 ac9_o18_0
  have c10_o18_1 : w10.cell? ⟨w8.heap.size, 1, none⟩ = some (.int .i64 st0) := keepc hb' c9_o18_1
  clear c9_o18_1 ac9_o18_1
  have c10_o18_2 : w10.cell? ⟨w8.heap.size, 2, none⟩ = some (.slice (some ⟨g017, 0, none⟩) n0 n0) := keepc hb' c9_o18_2
  clear c9_o18_2 ac9_o18_2
  have c10_o20_0 : w10.cell? ⟨w9.heap.size, 0, none⟩ = some (.int .i64 st1) := keepc hb (by first | (simp; done) | (rw [World.cell?_alloc_past _ _ _ (by simp <;> omega)]; simp; done) | (rw [World.cell?_alloc_past _ _ _ (by simp <;> omega), World.cell?_alloc_past _ _ _ (by simp <;> omega)]; simp; done) | (rw [World.cell?_alloc_past _ _ _ (by simp <;> omega), World.cell?_alloc_past _ _ _ (by simp <;> omega), World.cell?_alloc_past _ _ _ (by simp <;> omega)]; simp; done) | (rw [World.cell?_alloc_at _ _ _ _ (by simp)]; simp; done) | (rw [World.cell?_alloc_past _ _ _ (by simp <;> omega), World.cell?_alloc_at _ _ _ _ (by simp)]; simp; done) | (rw [World.cell?_alloc_past _ _ _ (by simp <;> omega), World.cell?_alloc_past _ _ _ (by simp <;> omega), World.cell?_alloc_at _ _ _ _ (by simp)]; simp; done) | (rw [World.cell?_alloc_past _ _ _ (by simp <;> omega), World.cell?_alloc_past _ _ _ (by simp <;> omega), World.cell?_alloc_past _ _ _ (by simp <;> omega), World.cell?_alloc_at _ _ _ _ (by simp)]; simp; done))
  have hl_c10_o20_0 : w9.heap.size < w10.heap.size := World.block_lt_of_cell? w10 _ c10_o20_0
  have c10_o20_1 : w10.cell? ⟨w9.heap.size, 1, none⟩ = some (.slice (some ⟨g19, 0, none⟩) n1 n1) := keepc hb (by first | (simp; done) | (rw [World.cell?_alloc_past _ _ _ (by simp <;> omega)]; simp; done) | (rw [World.cell?_alloc_past _ _ _ (by simp <;> omega), World.cell?_alloc_past _ _ _ (by simp <;> omega)]; simp; done) | (rw [World.cell?_alloc_past _ _ _ (by simp <;> omega), World.cell?_alloc_past _ _ _ (by simp <;> omega), World.cell?_alloc_past _ _ _ (by simp <;> omega)]; simp; done) | (rw [World.cell?_alloc_at _ _ _ _ (by simp)]; simp; done) | (rw [World.cell?_alloc_past _ _ _ (by simp <;> omega), World.cell?_alloc_at _ _ _ _ (by simp)]; simp; done) | (rw [World.cell?_alloc_past _ _ _ (by simp <;> omega), World.cell?_alloc_past _ _ _ (by simp <;> omega), World.cell?_alloc_at _ _ _ _ (by simp)]; simp; done) | (rw [World.cell?_alloc_past _ _ _ (by simp <;> omega), World.cell?_alloc_past _ _ _ (by simp <;> omega), World.cell?_alloc_past _ _ _ (by simp <;> omega), World.cell?_alloc_at _ _ _ _ (by simp)]; simp; done))
  have ac10_a0_0 := fun o => keepa o c10_a0_0
  have ac10_a0_1 := fun o => keepa o c10_a0_1
  have ac10_a0_2 := fun o => keepa o c10_a0_2
  have ac10_a1_0 := fun o => keepa o c10_a1_0
  have ac10_a1_1 := fun o => keepa o c10_a1_1
  have ac10_a2_0 := fun o => keepa o c10_a2_0
  have ac10_a2_1 := fun o => keepa o c10_a2_1
  have ac10_o18_0 := fun o => keepa o c10_o18_0
  have ac10_o18_1 := fun o => keepa o c10_o18_1
  have ac10_o18_2 := fun o => keepa o c10_o18_2
  have ac10_o20_0 := fun o => keepa o c10_o20_0
  have ac10_o20_1 := fun o => keepa o c10_o20_1
  have rP0 := P0.out.below hb'; clear P0; have P0 := Lib.hid rP0; clear rP0
  have rP1 := P1.out.below hb'; clear P1; have P1 := Lib.hid rP1; clear rP1
  have rP2 := P2.out.below hb'; clear P2; have P2 := Lib.hid rP2; clear rP2
  have rFo18 := Fo18.out.below hb'; clear Fo18; have Fo18 := Lib.hid rFo18; clear rFo18
  have rFo20 := Fo20.out.below hb'; clear Fo20; have Fo20 := Lib.hid rFo20; clear rFo20
  have rB := below_chain B.out (by omega) hb'; clear B; have B := Lib.hid rB; clear rB
  have Fo22 := Lib.hid q10; clear q10
  clear hb hb'
  go_wp2_with fail
  refine (iAvoidsHalting_c _ _ _ _ _ _ _ _ _ _ _ _ _ _ _ _ _ (by exact ((Fo18.out.rd).alloc _)) (by exact ((Fo20.out.rdI).alloc _)) (by exact ((Fo22.out.rdI).alloc _)) (by omega) (by omega) (by omega)).mono ?_
  rintro e w11 ⟨rfl, hb⟩
  have hb' : Below w10.heap.size w10 w11 := (by first | (with_reducible exact hb) | (with_reducible exact up1 hb) | (with_reducible exact up2 hb) | (with_reducible exact up3 hb) | (with_reducible exact up4 hb) | (with_reducible exact below_of_drew hb) | (with_reducible exact below_of_drew (up1 hb)))
  have z11 := hb'.size
  have c11_a0_0 : w11.cell? ⟨w.heap.size, 0, none⟩ = some (.int .i64 sy0) := keepc hb' c10_a0_0
  clear c10_a0_0 ac10_a0_0
  have c11_a0_1 : w11.cell? ⟨w.heap.size, 1, none⟩ = some (.int .i64 st0) := keepc hb' c10_a0_1
  clear c10_a0_1 ac10_a0_1
  have c11_a0_2 : w11.cell? ⟨w.heap.size, 2, none⟩ = some (.slice A0 n0 c0) := keepc hb' c10_a0_2
  clear c10_a0_2 ac10_a0_2
  have c11_a1_0 : w11.cell? ⟨(w.heap.size + 1), 0, none⟩ = some (.int .i64 st1) := keepc hb' c10_a1_0
  clear c10_a1_0 ac10_a1_0
  have c11_a1_1 : w11.cell? ⟨(w.heap.size + 1), 1, none⟩ = some (.slice A1 n1 c1) := keepc hb' c10_a1_1
  clear c10_a1_1 ac10_a1_1
  have c11_a2_0 : w11.cell? ⟨(w.heap.size + 1 + 1), 0, none⟩ = some (.int .i64 st2) := keepc hb' c10_a2_0
  clear c10_a2_0 ac10_a2_0
  have c11_a2_1 : w11.cell? ⟨(w.heap.size + 1 + 1), 1, none⟩ = some (.slice A2 n2 c2) := keepc hb' c10_a2_1
  clear c10_a2_1 ac10_a2_1
  have c11_o18_0 : w11.cell? ⟨w8.heap.size, 0, none⟩ = some (.int .i64 sy0) := keepc hb' c10_o18_0
  clear c10_o18_0 ac10_o18_0
  have c11_o18_1 : w11.cell? ⟨w8.heap.size, 1, none⟩ = some (.int .i64 st0) := keepc hb' c10_o18_1
  clear c10_o18_1 ac10_o18_1
  have c11_o18_2 : w11.cell? ⟨w8.heap.size, 2, none⟩ = some (.slice (some ⟨g017, 0, none⟩) n0 n0) := keepc hb' c10_o18_2
  clear c10_o18_2 ac10_o18_2
  have c11_o20_0 : w11.cell? ⟨w9.heap.size, 0, none⟩ = some (.int .i64 st1) := keepc hb' c10_o20_0
  clear c10_o20_0 ac10_o20_0
  have c11_o20_1 : w11.cell? ⟨w9.heap.size, 1, none⟩ = some (.slice (some ⟨g19, 0, none⟩) n1 n1) := keepc hb' c10_o20_1
  clear c10_o20_1 ac10_o20_1
  have c11_o22_0 : w11.cell? ⟨w10.heap.size, 0, none⟩ = some (.int .i64 st2) := keepc hb (by first | (simp; done) | (rw [World.cell?_alloc_past _ _ _ (by simp <;> omega)]; simp; done) | (rw [World.cell?_alloc_past _ _ _ (by simp <;> omega), World.cell?_alloc_past _ _ _ (by simp <;> omega)]; simp; done) | (rw [World.cell?_alloc_past _ _ _ (by simp <;> omega), World.cell?_alloc_past _ _ _ (by simp <;> omega), World.cell?_alloc_past _ _ _ (by simp <;> omega)]; simp; done) | (rw [World.cell?_alloc_at _ _ _ _ (by simp)]; simp; done) | (rw [World.cell?_alloc_past _ _ _ (by simp <;> omega), World.cell?_alloc_at _ _ _ _ (by simp)]; simp; done) | (rw [World.cell?_alloc_past _ _ _ (by simp <;> omega), World.cell?_alloc_past _ _ _ (by simp <;> omega), World.cell?_alloc_at _ _ _ _ (by simp)]; simp; done) | (rw [World.cell?_alloc_past _ _ _ (by simp <;> omega), World.cell?_alloc_past _ _ _ (by simp <;> omega), World.cell?_alloc_past _ _ _ (by simp <;> omega), World.cell?_alloc_at _ _ _ _ (by simp)]; simp; done))
  have hl_c11_o22_0 : w10.heap.size < w11.heap.size := World.block_lt_of_cell? w11 _ c11_o22_0
  have c11_o22_1 : w11.cell? ⟨w10.heap.size, 1, none⟩ = some (.slice (some ⟨g21, 0, none⟩) n2 n2) := keepc hb (by first | (simp; done) | (rw [World.cell?_alloc_past _ _ _ (by simp <;> omega)]; simp; done) | (rw [World.cell?_alloc_past _ _ _ (by simp <;> omega), World.cell?_alloc_past _ _ _ (by simp <;> omega)]; simp; done) | (rw [World.cell?_alloc_past _ _ _ (by simp <;> omega), World.cell?_alloc_past _ _ _ (by simp <;> omega), World.cell?_alloc_past _ _ _ (by simp <;> omega)]; simp; done) | (rw [World.cell?_alloc_at _ _ _ _ (by simp)]; simp; done) | (rw [World.cell?_alloc_past _ _ _ (by simp <;> omega), World.cell?_alloc_at _ _ _ _ (by simp)]; simp; done) | (rw [World.cell?_alloc_past _ _ _ (by simp <;> omega), World.cell?_alloc_past _ _ _ (by simp <;> omega), World.cell?_alloc_at _ _ _ _ (by simp)]; simp; done) | (rw [World.cell?_alloc_past _ _ _ (by simp <;> omega), World.cell?_alloc_past _ _ _ (by simp <;> omega), World.cell?_alloc_past _ _ _ (by simp <;> omega), World.cell?_alloc_at _ _ _ _ (by simp)]; simp; done))
  have ac11_a0_0 := fun o => keepa o c11_a0_0
  have ac11_a0_1 := fun o => keepa o c11_a0_1
  have ac11_a0_2 := fun o => keepa o c11_a0_2
  have ac11_a1_0 := fun o => keepa o c11_a1_0
  have ac11_a1_1 := fun o => keepa o c11_a1_1
  have ac11_a2_0 := fun o => keepa o c11_a2_0
  have ac11_a2_1 := fun o => keepa o c11_a2_1
  have ac11_o18_0 := fun o => keepa o c11_o18_0
  have ac11_o18_1 := fun o => keepa o c11_o18_1
  have ac11_o18_2 := fun o => keepa o c11_o18_2
  have ac11_o20_0 := fun o => keepa o c11_o20_0
  have ac11_o20_1 := fun o => keepa o c11_o20_1
  have ac11_o22_0 := fun o => keepa o c11_o22_0
  have ac11_o22_1 := fun o => keepa o c11_o22_1
  have rP0 := P0.out.below hb'; clear P0; have P0 := Lib.hid rP0; clear rP0
  have rP1 := P1.out.below hb'; clear P1; have P1 := Lib.hid rP1; clear rP1
  have rP2 := P2.out.below hb'; clear P2; have P2 := Lib.hid rP2; clear rP2
  have rFo18 := Fo18.out.below hb'; clear Fo18; have Fo18 := Lib.hid rFo18; clear rFo18
  have rFo20 := Fo20.out.below hb'; clear Fo20; have Fo20 := Lib.hid rFo20; clear rFo20
  have rFo22 := Fo22.out.below hb'; clear Fo22; have Fo22 := Lib.hid rFo22; clear rFo22
  have rB := below_chain B.out (by omega) hb'; clear B; have B := Lib.hid rB; clear rB
  clear hb hb'
  go_wp2_with fail
  have fx_c11_a0_0 := Ext.cell c11_a0_0
  have fx_c11_a0_1 := Ext.cell c11_a0_1
  have fx_c11_a0_2 := Ext.cell c11_a0_2
  have fx_c11_a1_0 := Ext.cell c11_a1_0
  have fx_c11_a1_1 := Ext.cell c11_a1_1
  have fx_c11_a2_0 := Ext.cell c11_a2_0
  have fx_c11_a2_1 := Ext.cell c11_a2_1
  have fx_c11_o18_0 := Ext.cell c11_o18_0
  have fx_c11_o18_1 := Ext.cell c11_o18_1
  have fx_c11_o18_2 := Ext.cell c11_o18_2
  have fx_c11_o20_0 := Ext.cell c11_o20_0
  have fx_c11_o20_1 := Ext.cell c11_o20_1
  have fx_c11_o22_0 := Ext.cell c11_o22_0
  have fx_c11_o22_1 := Ext.cell c11_o22_1
  refine Mix.wp_region_mix [3, 3, 1, 1, 0] (fun w' => ∃ x : Ext w11, w' = x.w) (by kernel_rfl) (by kernel_rfl) (InExt.drew _) ?_
  repeat (first | (refine Mix.wpMix_read (by rfl) ?_; go_big_quiet_step (fail); refine wpQuiet_nil ?_) | (refine Mix.wpMix_pure (by rfl) ?_; go_big_quiet_step (fail); refine wpQuiet_nil ?_))
  refine Mix.wpMix_chg (by rfl) (fun K hK => ?_)
  go_wp2_with fail
  refine (toMachine_c _ _ _ _ _ _ _ (by exact (P0.out.rd)) (by omega)).mono ?_
  rintro e w12 ⟨g023, rfl, q12, hb⟩
  have hb' : Below w11.heap.size w11 w12 := (by first | (with_reducible exact hb) | (with_reducible exact up1 hb) | (with_reducible exact up2 hb) | (with_reducible exact up3 hb) | (with_reducible exact up4 hb) | (with_reducible exact below_of_drew hb) | (with_reducible exact below_of_drew (up1 hb)))
  have z12 := hb'.size
  have c12_a0_0 : w12.cell? ⟨w.heap.size, 0, none⟩ = some (.int .i64 sy0) := keepc hb' c11_a0_0
  clear c11_a0_0 ac11_a0_0
  have c12_a0_1 : w12.cell? ⟨w.heap.size, 1, none⟩ = some (.int .i64 st0) := keepc hb' c11_a0_1
  clear c11_a0_1 ac11_a0_1
  have c12_a0_2 : w12.cell? ⟨w.heap.size, 2, none⟩ = some (.slice A0 n0 c0) := keepc hb' c11_a0_2
  clear c11_a0_2 ac11_a0_2
  have c12_a1_0 : w12.cell? ⟨(w.heap.size + 1), 0, none⟩ = some (.int .i64 st1) := keepc hb' c11_a1_0
  clear c11_a1_0 ac11_a1_0
  have c12_a1_1 : w12.cell? ⟨(w.heap.size + 1), 1, none⟩ = some (.slice A1 n1 c1) := keepc hb' c11_a1_1
  clear c11_a1_1 ac11_a1_1
  have c12_a2_0 : w12.cell? ⟨(w.heap.size + 1 + 1), 0, none⟩ = some (.int .i64 st2) := keepc hb' c11_a2_0
  clear c11_a2_0 ac11_a2_0
  have c12_a2_1 : w12.cell? ⟨(w.heap.size + 1 + 1), 1, none⟩ = some (.slice A2 n2 c2) := keepc hb' c11_a2_1
  clear c11_a2_1 ac11_a2_1
  have c12_o18_0 : w12.cell? ⟨w8.heap.size, 0, none⟩ = some (.int .i64 sy0) := keepc hb' c11_o18_0
  clear c11_o18_0 ac11_o18_0
  have c12_o18_1 : w12.cell? ⟨w8.heap.size, 1, none⟩ = some (.int .i64 st0) := keepc hb' c11_o18_1
  clear c11_o18_1 ac11_o18_1
  have c12_o18_2 : w12.cell? ⟨w8.heap.size, 2, none⟩ = some (.slice (some ⟨g017, 0, none⟩) n0 n0) := keepc hb' c11_o18_2
  clear c11_o18_2 ac11_o18_2
  have c12_o20_0 : w12.cell? ⟨w9.heap.size, 0, none⟩ = some (.int .i64 st1) := keepc hb' c11_o20_0
  clear c11_o20_0 ac11_o20_0
  have c12_o20_1 : w12.cell? ⟨w9.heap.size, 1, none⟩ = some (.slice (some ⟨g19, 0, none⟩) n1 n1) := keepc hb' c11_o20_1
  clear c11_o20_1 ac11_o20_1
  have c12_o22_0 : w12.cell? ⟨w10.heap.size, 0, none⟩ = some (.int .i64 st2) := keepc hb' c11_o22_0
  clear c11_o22_0 ac11_o22_0
  have c12_o22_1 : w12.cell? ⟨w10.heap.size, 1, none⟩ = some (.slice (some ⟨g21, 0, none⟩) n2 n2) := keepc hb' c11_o22_1
  clear c11_o22_1 ac11_o22_1
  have ac12_a0_0 := fun o => keepa o c12_a0_0
  have ac12_a0_1 := fun o => keepa o c12_a0_1
  have ac12_a0_2 := fun o => keepa o c12_a0_2
  have ac12_a1_0 := fun o => keepa o c12_a1_0
  have ac12_a1_1 := fun o => keepa o c12_a1_1
  have ac12_a2_0 := fun o => keepa o c12_a2_0
  have ac12_a2_1 := fun o => keepa o c12_a2_1
  have ac12_o18_0 := fun o => keepa o c12_o18_0
  have ac12_o18_1 := fun o => keepa o c12_o18_1
  have ac12_o18_2 := fun o => keepa o c12_o18_2
  have ac12_o20_0 := fun o => keepa o c12_o20_0
  have ac12_o20_1 := fun o => keepa o c12_o20_1
  have ac12_o22_0 := fun o => keepa o c12_o22_0
  have ac12_o22_1 := fun o => keepa o c12_o22_1
  have rP0 := P0.out.below hb'; clear P0; have P0 := Lib.hid rP0; clear rP0
  have rP1 := P1.out.below hb'; clear P1; have P1 := Lib.hid rP1; clear rP1
  have rP2 := P2.out.below hb'; clear P2; have P2 := Lib.hid rP2; clear rP2
  have rFo18 := Fo18.out.below hb'; clear Fo18; have Fo18 := Lib.hid rFo18; clear rFo18
  have rFo20 := Fo20.out.below hb'; clear Fo20; have Fo20 := Lib.hid rFo20; clear rFo20
  have rFo22 := Fo22.out.below hb'; clear Fo22; have Fo22 := Lib.hid rFo22; clear rFo22
  have rB := below_chain B.out (by omega) hb'; clear B; have B := Lib.hid rB; clear rB
  have Fo24 := Lib.hid q12; clear q12
  have em12 : Below w11.heap.size w11 w12 := hb'
  clear hb hb'
  go_wp2_with fail
  refine hK _ _ ⟨⟨_, em12⟩, rfl⟩ ?_
  clear hK K
  refine Mix.wpMix_chg (by rfl) (fun K hK => ?_)
  go_wp2_with fail
  refine (eqMachine_t _ _ _ _ _ _ _ _ _ _ (by exact (Fo18.out.rd)) (by exact (Fo24.out.rd)) (by omega)).mono ?_
  rintro e w13 ⟨rfl, hb⟩
  have hb' : Below w12.heap.size w12 w13 := (by first | (with_reducible exact hb) | (with_reducible exact up1 hb) | (with_reducible exact up2 hb) | (with_reducible exact up3 hb) | (with_reducible exact up4 hb) | (with_reducible exact below_of_drew hb) | (with_reducible exact below_of_drew (up1 hb)))
  have z13 := hb'.size
  have c13_a0_0 : w13.cell? ⟨w.heap.size, 0, none⟩ = some (.int .i64 sy0) := keepc hb' c12_a0_0
  clear c12_a0_0 ac12_a0_0
  have c13_a0_1 : w13.cell? ⟨w.heap.size, 1, none⟩ = some (.int .i64 st0) := keepc hb' c12_a0_1
  clear c12_a0_1 ac12_a0_1
  have c13_a0_2 : w13.cell? ⟨w.heap.size, 2, none⟩ = some (.slice A0 n0 c0) := keepc hb' c12_a0_2
  clear c12_a0_2 ac12_a0_2
  have c13_a1_0 : w13.cell? ⟨(w.heap.size + 1), 0, none⟩ = some (.int .i64 st1) := keepc hb' c12_a1_0
  clear c12_a1_0 ac12_a1_0
  have c13_a1_1 : w13.cell? ⟨(w.heap.size + 1), 1, none⟩ = some (.slice A1 n1 c1) := keepc hb' c12_a1_1
  clear c12_a1_1 ac12_a1_1
  have c13_a2_0 : w13.cell? ⟨(w.heap.size + 1 + 1), 0, none⟩ = some (.int .i64 st2) := keepc hb' c12_a2_0
  clear c12_a2_0 ac12_a2_0
  have c13_a2_1 : w13.cell? ⟨(w.heap.size + 1 + 1), 1, none⟩ = some (.slice A2 n2 c2) := keepc hb' c12_a2_1
  clear c12_a2_1 ac12_a2_1
  have c13_o18_0 : w13.cell? ⟨w8.heap.size, 0, none⟩ = some (.int .i64 sy0) := keepc hb' c12_o18_0
  clear c12_o18_0 ac12_o18_0
  have c13_o18_1 : w13.cell? ⟨w8.heap.size, 1, none⟩ = some (.int .i64 st0) := keepc hb' c12_o18_1
  clear c12_o18_1 ac12_o18_1
  have c13_o18_2 : w13.cell? ⟨w8.heap.size, 2, none⟩ = some (.slice (some ⟨g017, 0, none⟩) n0 n0) := keepc hb' c12_o18_2
  clear c12_o18_2 ac12_o18_2
  have c13_o20_0 : w13.cell? ⟨w9.heap.size, 0, none⟩ = some (.int .i64 st1) := keepc hb' c12_o20_0
  clear c12_o20_0 ac12_o20_0
  have c13_o20_1 : w13.cell? ⟨w9.heap.size, 1, none⟩ = some (.slice (some ⟨g19, 0, none⟩) n1 n1) := keepc hb' c12_o20_1
  clear c12_o20_1 ac12_o20_1
  have c13_o22_0 : w13.cell? ⟨w10.heap.size, 0, none⟩ = some (.int .i64 st2) := keepc hb' c12_o22_0
  clear c12_o22_0 ac12_o22_0
  have c13_o22_1 : w13.cell? ⟨w10.heap.size, 1, none⟩ = some (.slice (some ⟨g21, 0, none⟩) n2 n2) := keepc hb' c12_o22_1
  clear c12_o22_1 ac12_o22_1
  have ac13_a0_0 := fun o => keepa o c13_a0_0
  have ac13_a0_1 := fun o => keepa o c13_a0_1
  have ac13_a0_2 := fun o => keepa o c13_a0_2
  have ac13_a1_0 := fun o => keepa o c13_a1_0
  have ac13_a1_1 := fun o => keepa o c13_a1_1
  have ac13_a2_0 := fun o => keepa o c13_a2_0
  have ac13_a2_1 := fun o => keepa o c13_a2_1
  have ac13_o18_0 := fun o => keepa o c13_o18_0
  have ac13_o18_1 := fun o => keepa o c13_o18_1
  have ac13_o18_2 := fun o => keepa o c13_o18_2
  have ac13_o20_0 := fun o => keepa o c13_o20_0
  have ac13_o20_1 := fun o => keepa o c13_o20_1
  have ac13_o22_0 := fun o => keepa o c13_o22_0
  have ac13_o22_1 := fun o => keepa o c13_o22_1
  have rP0 := P0.out.below hb'; clear P0; have P0 := Lib.hid rP0; clear rP0
  have rP1 := P1.out.below hb'; clear P1; have P1 := Lib.hid rP1; clear rP1
  have rP2 := P2.out.below hb'; clear P2; have P2 := Lib.hid rP2; clear rP2
  have rFo18 := Fo18.out.below hb'; clear Fo18; have Fo18 := Lib.hid rFo18; clear rFo18
  have rFo20 := Fo20.out.below hb'; clear Fo20; have Fo20 := Lib.hid rFo20; clear rFo20
  have rFo22 := Fo22.out.below hb'; clear Fo22; have Fo22 := Lib.hid rFo22; clear rFo22
  have rFo24 := Fo24.out.below hb'; clear Fo24; have Fo24 := Lib.hid rFo24; clear rFo24
  have rB := below_chain B.out (by omega) hb'; clear B; have B := Lib.hid rB; clear rB
  have em13 : Below w11.heap.size w11 w13 := below_chain em12 (by omega) hb'
  clear hb hb'
  go_wp2_with fail
  refine hK _ _ ⟨⟨_, em13⟩, rfl⟩ ?_
  clear hK K
  repeat (first | (refine Mix.wpMix_read (by rfl) ?_; go_big_quiet_step (fail); refine wpQuiet_nil ?_) | (refine Mix.wpMix_pure (by rfl) ?_; go_big_quiet_step (fail); refine wpQuiet_nil ?_))
  (refine Mix.wpMix_nil ?_; try simp only [Exit.then])
  clear fx_c11_a0_0
  clear fx_c11_a0_1
  clear fx_c11_a0_2
  clear fx_c11_a1_0
  clear fx_c11_a1_1
  clear fx_c11_a2_0
  clear fx_c11_a2_1
  clear fx_c11_o18_0
  clear fx_c11_o18_1
  clear fx_c11_o18_2
  clear fx_c11_o20_0
  clear fx_c11_o20_1
  clear fx_c11_o22_0
  clear fx_c11_o22_1
  clear Fo24
  go_wp2_with fail
  have fx_c13_a0_0 := Ext.cell c13_a0_0
  have fx_c13_a0_1 := Ext.cell c13_a0_1
  have fx_c13_a0_2 := Ext.cell c13_a0_2
  have fx_c13_a1_0 := Ext.cell c13_a1_0
  have fx_c13_a1_1 := Ext.cell c13_a1_1
  have fx_c13_a2_0 := Ext.cell c13_a2_0
  have fx_c13_a2_1 := Ext.cell c13_a2_1
  have fx_c13_o18_0 := Ext.cell c13_o18_0
  have fx_c13_o18_1 := Ext.cell c13_o18_1
  have fx_c13_o18_2 := Ext.cell c13_o18_2
  have fx_c13_o20_0 := Ext.cell c13_o20_0
  have fx_c13_o20_1 := Ext.cell c13_o20_1
  have fx_c13_o22_0 := Ext.cell c13_o22_0
  have fx_c13_o22_1 := Ext.cell c13_o22_1
  refine Mix.wp_region_mix [3, 3, 1, 1, 0] (fun w' => ∃ x : Ext w13, w' = x.w) (by kernel_rfl) (by kernel_rfl) (InExt.drew _) ?_
  repeat (first | (refine Mix.wpMix_read (by rfl) ?_; go_big_quiet_step (fail); refine wpQuiet_nil ?_) | (refine Mix.wpMix_pure (by rfl) ?_; go_big_quiet_step (fail); refine wpQuiet_nil ?_))
  refine Mix.wpMix_chg (by rfl) (fun K hK => ?_)
  go_wp2_with fail
  refine (toDfa_c _ _ _ _ _ _ (by exact (P1.out.1)) (by omega)).mono ?_
  rintro e w14 ⟨g25, rfl, q14, hb⟩
  have hb' : Below w13.heap.size w13 w14 := (by first | (with_reducible exact hb) | (with_reducible exact up1 hb) | (with_reducible exact up2 hb) | (with_reducible exact up3 hb) | (with_reducible exact up4 hb) | (with_reducible exact below_of_drew hb) | (with_reducible exact below_of_drew (up1 hb)))
  have z14 := hb'.size
  have c14_a0_0 : w14.cell? ⟨w.heap.size, 0, none⟩ = some (.int .i64 sy0) := keepc hb' c13_a0_0
  clear c13_a0_0 ac13_a0_0
  have c14_a0_1 : w14.cell? ⟨w.heap.size, 1, none⟩ = some (.int .i64 st0) := keepc hb' c13_a0_1
  clear c13_a0_1 ac13_a0_1
  have c14_a0_2 : w14.cell? ⟨w.heap.size, 2, none⟩ = some (.slice A0 n0 c0) := keepc hb' c13_a0_2
  clear c13_a0_2 ac13_a0_2
  have c14_a1_0 : w14.cell? ⟨(w.heap.size + 1), 0, none⟩ = some (.int .i64 st1) := keepc hb' c13_a1_0
  clear c13_a1_0 ac13_a1_0
  have c14_a1_1 : w14.cell? ⟨(w.heap.size + 1), 1, none⟩ = some (.slice A1 n1 c1) := keepc hb' c13_a1_1
  clear c13_a1_1 ac13_a1_1
  have c14_a2_0 : w14.cell? ⟨(w.heap.size + 1 + 1), 0, none⟩ = some (.int .i64 st2) := keepc hb' c13_a2_0
  clear c13_a2_0 ac13_a2_0
  have c14_a2_1 : w14.cell? ⟨(w.heap.size + 1 + 1), 1, none⟩ = some (.slice A2 n2 c2) := keepc hb' c13_a2_1
  clear c13_a2_1 ac13_a2_1
  have c14_o18_0 : w14.cell? ⟨w8.heap.size, 0, none⟩ = some (.int .i64 sy0) := keepc hb' c13_o18_0
  clear c13_o18_0 ac13_o18_0
  have c14_o18_1 : w14.cell? ⟨w8.heap.size, 1, none⟩ = some (.int .i64 st0) := keepc hb' c13_o18_1
  clear c13_o18_1 ac13_o18_1
  have c14_o18_2 : w14.cell? ⟨w8.heap.size, 2, none⟩ = some (.slice (some ⟨g017, 0, none⟩) n0 n0) := keepc hb' c13_o18_2
  clear c13_o18_2 ac13_o18_2
  have c14_o20_0 : w14.cell? ⟨w9.heap.size, 0, none⟩ = some (.int .i64 st1) := keepc hb' c13_o20_0
  clear c13_o20_0 ac13_o20_0
  have c14_o20_1 : w14.cell? ⟨w9.heap.size, 1, none⟩ = some (.slice (some ⟨g19, 0, none⟩) n1 n1) := keepc hb' c13_o20_1
  clear c13_o20_1 ac13_o20_1
  have c14_o22_0 : w14.cell? ⟨w10.heap.size, 0, none⟩ = some (.int .i64 st2) := keepc hb' c13_o22_0
  clear c13_o22_0 ac13_o22_0
  have c14_o22_1 : w14.cell? ⟨w10.heap.size, 1, none⟩ = some (.slice (some ⟨g21, 0, none⟩) n2 n2) := keepc hb' c13_o22_1
  clear c13_o22_1 ac13_o22_1
  have ac14_a0_0 := fun o => keepa o c14_a0_0
  have ac14_a0_1 := fun o => keepa o c14_a0_1
  have ac14_a0_2 := fun o => keepa o c14_a0_2
  have ac14_a1_0 := fun o => keepa o c14_a1_0
  have ac14_a1_1 := fun o => keepa o c14_a1_1
  have ac14_a2_0 := fun o => keepa o c14_a2_0
  have ac14_a2_1 := fun o => keepa o c14_a2_1
  have ac14_o18_0 := fun o => keepa o c14_o18_0
  have ac14_o18_1 := fun o => keepa o c14_o18_1
  have ac14_o18_2 := fun o => keepa o c14_o18_2
  have ac14_o20_0 := fun o => keepa o c14_o20_0
  have ac14_o20_1 := fun o => keepa o c14_o20_1
  have ac14_o22_0 := fun o => keepa o c14_o22_0
  have ac14_o22_1 := fun o => keepa o c14_o22_1
  have rP0 := P0.out.below hb'; clear P0; have P0 := Lib.hid rP0; clear rP0
  have rP1 := P1.out.below hb'; clear P1; have P1 := Lib.hid rP1; clear rP1
  have rP2 := P2.out.below hb'; clear P2; have P2 := Lib.hid rP2; clear rP2
  have rFo18 := Fo18.out.below hb'; clear Fo18; have Fo18 := Lib.hid rFo18; clear rFo18
  have rFo20 := Fo20.out.below hb'; clear Fo20; have Fo20 := Lib.hid rFo20; clear rFo20
  have rFo22 := Fo22.out.below hb'; clear Fo22; have Fo22 := Lib.hid rFo22; clear rFo22
  have rB := below_chain B.out (by omega) hb'; clear B; have B := Lib.hid rB; clear rB
  have Fo26 := Lib.hid q14; clear q14
  have em14 : Below w13.heap.size w13 w14 := hb'
  clear hb hb'
  go_wp2_with fail
  refine hK _ _ ⟨⟨_, em14⟩, rfl⟩ ?_
  clear hK K
  refine Mix.wpMix_chg (by rfl) (fun K hK => ?_)
  go_wp2_with fail
  refine (eqDfa_t _ _ _ _ _ _ _ _ _ (by exact (Fo20.out.rdI)) (by exact (Fo26.out.rdI)) (by omega)).mono ?_
  rintro e w15 ⟨rfl, hb⟩
  have hb' : Below w14.heap.size w14 w15 := (by first | (with_reducible exact hb) | (with_reducible exact up1 hb) | (with_reducible exact up2 hb) | (with_reducible exact up3 hb) | (with_reducible exact up4 hb) | (with_reducible exact below_of_drew hb) | (with_reducible exact below_of_drew (up1 hb)))
  have z15 := hb'.size
  have c15_a0_0 : w15.cell? ⟨w.heap.size, 0, none⟩ = some (.int .i64 sy0) := keepc hb' c14_a0_0
  clear c14_a0_0 ac14_a0_0
  have c15_a0_1 : w15.cell? ⟨w.heap.size, 1, none⟩ = some (.int .i64 st0) := keepc hb' c14_a0_1
  clear c14_a0_1 ac14_a0_1
  have c15_a0_2 : w15.cell? ⟨w.heap.size, 2, none⟩ = some (.slice A0 n0 c0) := keepc hb' c14_a0_2
  clear c14_a0_2 ac14_a0_2
  have c15_a1_0 : w15.cell? ⟨(w.heap.size + 1), 0, none⟩ = some (.int .i64 st1) := keepc hb' c14_a1_0
  clear c14_a1_0 ac14_a1_0
  have c15_a1_1 : w15.cell? ⟨(w.heap.size + 1), 1, none⟩ = some (.slice A1 n1 c1) := keepc hb' c14_a1_1
  clear c14_a1_1 ac14_a1_1
  have c15_a2_0 : w15.cell? ⟨(w.heap.size + 1 + 1), 0, none⟩ = some (.int .i64 st2) := keepc hb' c14_a2_0
  clear c14_a2_0 ac14_a2_0
  have c15_a2_1 : w15.cell? ⟨(w.heap.size + 1 + 1), 1, none⟩ = some (.slice A2 n2 c2) := keepc hb' c14_a2_1
  clear c14_a2_1 ac14_a2_1
  have c15_o18_0 : w15.cell? ⟨w8.heap.size, 0, none⟩ = some (.int .i64 sy0) := keepc hb' c14_o18_0
  clear c14_o18_0 ac14_o18_0
  have c15_o18_1 : w15.cell? ⟨w8.heap.size, 1, none⟩ = some (.int .i64 st0) := keepc hb' c14_o18_1
  clear c14_o18_1 ac14_o18_1
  have c15_o18_2 : w15.cell? ⟨w8.heap.size, 2, none⟩ = some (.slice (some ⟨g017, 0, none⟩) n0 n0) := keepc hb' c14_o18_2
  clear c14_o18_2 ac14_o18_2
  have c15_o20_0 : w15.cell? ⟨w9.heap.size, 0, none⟩ = some (.int .i64 st1) := keepc hb' c14_o20_0
  clear c14_o20_0 ac14_o20_0
  have c15_o20_1 : w15.cell? ⟨w9.heap.size, 1, none⟩ = some (.slice (some ⟨g19, 0, none⟩) n1 n1) := keepc hb' c14_o20_1
  clear c14_o20_1 ac14_o20_1
  have c15_o22_0 : w15.cell? ⟨w10.heap.size, 0, none⟩ = some (.int .i64 st2) := keepc hb' c14_o22_0
  clear c14_o22_0 ac14_o22_0
  have c15_o22_1 : w15.cell? ⟨w10.heap.size, 1, none⟩ = some (.slice (some ⟨g21, 0, none⟩) n2 n2) := keepc hb' c14_o22_1
  clear c14_o22_1 ac14_o22_1
  have ac15_a0_0 := fun o => keepa o c15_a0_0
  have ac15_a0_1 := fun o => keepa o c15_a0_1
  have ac15_a0_2 := fun o => keepa o c15_a0_2
  have ac15_a1_0 := fun o => keepa o c15_a1_0
  have ac15_a1_1 := fun o => keepa o c15_a1_1
  have ac15_a2_0 := fun o => keepa o c15_a2_0
  have ac15_a2_1 := fun o => keepa o c15_a2_1
  have ac15_o18_0 := fun o => keepa o c15_o18_0
  have ac15_o18_1 := fun o => keepa o c15_o18_1
  have ac15_o18_2 := fun o => keepa o c15_o18_2
  have ac15_o20_0 := fun o => keepa o c15_o20_0
  have ac15_o20_1 := fun o => keepa o c15_o20_1
  have ac15_o22_0 := fun o => keepa o c15_o22_0
  have ac15_o22_1 := fun o => keepa o c15_o22_1
  have rP0 := P0.out.below hb'; clear P0; have P0 := Lib.hid rP0; clear rP0
  have rP1 := P1.out.below hb'; clear P1; have P1 := Lib.hid rP1; clear rP1
  have rP2 := P2.out.below hb'; clear P2; have P2 := Lib.hid rP2; clear rP2
  have rFo18 := Fo18.out.below hb'; clear Fo18; have Fo18 := Lib.hid rFo18; clear rFo18
  have rFo20 := Fo20.out.below hb'; clear Fo20; have Fo20 := Lib.hid rFo20; clear rFo20
  have rFo22 := Fo22.out.below hb'; clear Fo22; have Fo22 := Lib.hid rFo22; clear rFo22
  have rFo26 := Fo26.out.below hb'; clear Fo26; have Fo26 := Lib.hid rFo26; clear rFo26
  have rB := below_chain B.out (by omega) hb'; clear B; have B := Lib.hid rB; clear rB
  have em15 : Below w13.heap.size w13 w15 := below_chain em14 (by omega) hb'
  clear hb hb'
  go_wp2_with fail
  refine hK _ _ ⟨⟨_, em15⟩, rfl⟩ ?_
  clear hK K
  repeat (first | (refine Mix.wpMix_read (by rfl) ?_; go_big_quiet_step (fail); refine wpQuiet_nil ?_) | (refine Mix.wpMix_pure (by rfl) ?_; go_big_quiet_step (fail); refine wpQuiet_nil ?_))
  (refine Mix.wpMix_nil ?_; try simp only [Exit.then])
  clear fx_c13_a0_0
  clear fx_c13_a0_1
  clear fx_c13_a0_2
  clear fx_c13_a1_0
  clear fx_c13_a1_1
  clear fx_c13_a2_0
  clear fx_c13_a2_1
  clear fx_c13_o18_0
  clear fx_c13_o18_1
  clear fx_c13_o18_2
  clear fx_c13_o20_0
  clear fx_c13_o20_1
  clear fx_c13_o22_0
  clear fx_c13_o22_1
  clear Fo26
  go_wp2_with fail
  have fx_c15_a0_0 := Ext.cell c15_a0_0
  have fx_c15_a0_1 := Ext.cell c15_a0_1
  have fx_c15_a0_2 := Ext.cell c15_a0_2
  have fx_c15_a1_0 := Ext.cell c15_a1_0
  have fx_c15_a1_1 := Ext.cell c15_a1_1
  have fx_c15_a2_0 := Ext.cell c15_a2_0
  have fx_c15_a2_1 := Ext.cell c15_a2_1
  have fx_c15_o18_0 := Ext.cell c15_o18_0
  have fx_c15_o18_1 := Ext.cell c15_o18_1
  have fx_c15_o18_2 := Ext.cell c15_o18_2
  have fx_c15_o20_0 := Ext.cell c15_o20_0
  have fx_c15_o20_1 := Ext.cell c15_o20_1
  have fx_c15_o22_0 := Ext.cell c15_o22_0
  have fx_c15_o22_1 := Ext.cell c15_o22_1
  refine Mix.wp_region_mix [3, 3, 1, 1, 0] (fun w' => ∃ x : Ext w15, w' = x.w) (by kernel_rfl) (by kernel_rfl) (InExt.drew _) ?_
  repeat (first | (refine Mix.wpMix_read (by rfl) ?_; go_big_quiet_step (fail); refine wpQuiet_nil ?_) | (refine Mix.wpMix_pure (by rfl) ?_; go_big_quiet_step (fail); refine wpQuiet_nil ?_))
  refine Mix.wpMix_chg (by rfl) (fun K hK => ?_)
  go_wp2_with fail
  refine (toDfa_c _ _ _ _ _ _ (by exact (P2.out.1)) (by omega)).mono ?_
  rintro e w16 ⟨g27, rfl, q16, hb⟩
  have hb' : Below w15.heap.size w15 w16 := (by first | (with_reducible exact hb) | (with_reducible exact up1 hb) | (with_reducible exact up2 hb) | (with_reducible exact up3 hb) | (with_reducible exact up4 hb) | (with_reducible exact below_of_drew hb) | (with_reducible exact below_of_drew (up1 hb)))
  have z16 := hb'.size
  have c16_a0_0 : w16.cell? ⟨w.heap.size, 0, none⟩ = some (.int .i64 sy0) := keepc hb' c15_a0_0
  clear c15_a0_0 ac15_a0_0
  have c16_a0_1 : w16.cell? ⟨w.heap.size, 1, none⟩ = some (.int .i64 st0) := keepc hb' c15_a0_1
  clear c15_a0_1 ac15_a0_1
  have c16_a0_2 : w16.cell? ⟨w.heap.size, 2, none⟩ = some (.slice A0 n0 c0) := keepc hb' c15_a0_2
  clear c15_a0_2 ac15_a0_2
  have c16_a1_0 : w16.cell? ⟨(w.heap.size + 1), 0, none⟩ = some (.int .i64 st1) := keepc hb' c15_a1_0
  clear c15_a1_0 ac15_a1_0
  have c16_a1_1 : w16.cell? ⟨(w.heap.size + 1), 1, none⟩ = some (.slice A1 n1 c1) := keepc hb' c15_a1_1
  clear c15_a1_1 ac15_a1_1
  have c16_a2_0 : w16.cell? ⟨(w.heap.size + 1 + 1), 0, none⟩ = some (.int .i64 st2) := keepc hb' c15_a2_0
  clear c15_a2_0 ac15_a2_0
  have c16_a2_1 : w16.cell? ⟨(w.heap.size + 1 + 1), 1, none⟩ = some (.slice A2 n2 c2) := keepc hb' c15_a2_1
  clear c15_a2_1 ac15_a2_1
  have c16_o18_0 : w16.cell? ⟨w8.heap.size, 0, none⟩ = some (.int .i64 sy0) := keepc hb' c15_o18_0
  clear c15_o18_0 ac15_o18_0
  have c16_o18_1 : w16.cell? ⟨w8.heap.size, 1, none⟩ = some (.int .i64 st0) := keepc hb' c15_o18_1
  clear c15_o18_1 ac15_o18_1
  have c16_o18_2 : w16.cell? ⟨w8.heap.size, 2, none⟩ = some (.slice (some ⟨g017, 0, none⟩) n0 n0) := keepc hb' c15_o18_2
  clear c15_o18_2 ac15_o18_2
  have c16_o20_0 : w16.cell? ⟨w9.heap.size, 0, none⟩ = some (.int .i64 st1) := keepc hb' c15_o20_0
  clear c15_o20_0 ac15_o20_0
  have c16_o20_1 : w16.cell? ⟨w9.heap.size, 1, none⟩ = some (.slice (some ⟨g19, 0, none⟩) n1 n1) := keepc hb' c15_o20_1
  clear c15_o20_1 ac15_o20_1
  have c16_o22_0 : w16.cell? ⟨w10.heap.size, 0, none⟩ = some (.int .i64 st2) := keepc hb' c15_o22_0
  clear c15_o22_0 ac15_o22_0
  have c16_o22_1 : w16.cell? ⟨w10.heap.size, 1, none⟩ = some (.slice (some ⟨g21, 0, none⟩) n2 n2) := keepc hb' c15_o22_1
  clear c15_o22_1 ac15_o22_1
  have ac16_a0_0 := fun o => keepa o c16_a0_0
  have ac16_a0_1 := fun o => keepa o c16_a0_1
  have ac16_a0_2 := fun o => keepa o c16_a0_2
  have ac16_a1_0 := fun o => keepa o c16_a1_0
  have ac16_a1_1 := fun o => keepa o c16_a1_1
  have ac16_a2_0 := fun o => keepa o c16_a2_0
  have ac16_a2_1 := fun o => keepa o c16_a2_1
  have ac16_o18_0 := fun o => keepa o c16_o18_0
  have ac16_o18_1 := fun o => keepa o c16_o18_1
  have ac16_o18_2 := fun o => keepa o c16_o18_2
  have ac16_o20_0 := fun o => keepa o c16_o20_0
  have ac16_o20_1 := fun o => keepa o c16_o20_1
  have ac16_o22_0 := fun o => keepa o c16_o22_0
  have ac16_o22_1 := fun o => keepa o c16_o22_1
  have rP0 := P0.out.below hb'; clear P0; have P0 := Lib.hid rP0; clear rP0
  have rP1 := P1.out.below hb'; clear P1; have P1 := Lib.hid rP1; clear rP1
  have rP2 := P2.out.below hb'; clear P2; have P2 := Lib.hid rP2; clear rP2
  have rFo18 := Fo18.out.below hb'; clear Fo18; have Fo18 := Lib.hid rFo18; clear rFo18
  have rFo20 := Fo20.out.below hb'; clear Fo20; have Fo20 := Lib.hid rFo20; clear rFo20
  have rFo22 := Fo22.out.below hb'; clear Fo22; have Fo22 := Lib.hid rFo22; clear rFo22
  have rB := below_chain B.out (by omega) hb'; clear B; have B := Lib.hid rB; clear rB
  have Fo28 := Lib.hid q16; clear q16
  have em16 : Below w15.heap.size w15 w16 := hb'
  clear hb hb'
  go_wp2_with fail
  refine hK _ _ ⟨⟨_, em16⟩, rfl⟩ ?_
  clear hK K
  refine Mix.wpMix_chg (by rfl) (fun K hK => ?_)
  go_wp2_with fail
  refine (eqDfa_t _ _ _ _ _ _ _ _ _ (by exact (Fo22.out.rdI)) (by exact (Fo28.out.rdI)) (by omega)).mono ?_
  rintro e w17 ⟨rfl, hb⟩
  have hb' : Below w16.heap.size w16 w17 := (by first | (with_reducible exact hb) | (with_reducible exact up1 hb) | (with_reducible exact up2 hb) | (with_reducible exact up3 hb) | (with_reducible exact up4 hb) | (with_reducible exact below_of_drew hb) | (with_reducible exact below_of_drew (up1 hb)))
  have z17 := hb'.size
  have c17_a0_0 : w17.cell? ⟨w.heap.size, 0, none⟩ = some (.int .i64 sy0) := keepc hb' c16_a0_0
  clear c16_a0_0 ac16_a0_0
  have c17_a0_1 : w17.cell? ⟨w.heap.size, 1, none⟩ = some (.int .i64 st0) := keepc hb' c16_a0_1
  clear c16_a0_1 ac16_a0_1
  have c17_a0_2 : w17.cell? ⟨w.heap.size, 2, none⟩ = some (.slice A0 n0 c0) := keepc hb' c16_a0_2
  clear c16_a0_2 ac16_a0_2
  have c17_a1_0 : w17.cell? ⟨(w.heap.size + 1), 0, none⟩ = some (.int .i64 st1) := keepc hb' c16_a1_0
  clear c16_a1_0 ac16_a1_0
  have c17_a1_1 : w17.cell? ⟨(w.heap.size + 1), 1, none⟩ = some (.slice A1 n1 c1) := keepc hb' c16_a1_1
  clear c16_a1_1 ac16_a1_1
  have c17_a2_0 : w17.cell? ⟨(w.heap.size + 1 + 1), 0, none⟩ = some (.int .i64 st2) := keepc hb' c16_a2_0
  clear c16_a2_0 ac16_a2_0
  have c17_a2_1 : w17.cell? ⟨(w.heap.size + 1 + 1), 1, none⟩ = some (.slice A2 n2 c2) := keepc hb' c16_a2_1
  clear c16_a2_1 ac16_a2_1
  have c17_o18_0 : w17.cell? ⟨w8.heap.size, 0, none⟩ = some (.int .i64 sy0) := keepc hb' c16_o18_0
  clear c16_o18_0 ac16_o18_0
  have c17_o18_1 : w17.cell? ⟨w8.heap.size, 1, none⟩ = some (.int .i64 st0) := keepc hb' c16_o18_1
  clear c16_o18_1 ac16_o18_1
  have c17_o18_2 : w17.cell? ⟨w8.heap.size, 2, none⟩ = some (.slice (some ⟨g017, 0, none⟩) n0 n0) := keepc hb' c16_o18_2
  clear c16_o18_2 ac16_o18_2
  have c17_o20_0 : w17.cell? ⟨w9.heap.size, 0, none⟩ = some (.int .i64 st1) := keepc hb' c16_o20_0
  clear c16_o20_0 ac16_o20_0
  have c17_o20_1 : w17.cell? ⟨w9.heap.size, 1, none⟩ = some (.slice (some ⟨g19, 0, none⟩) n1 n1) := keepc hb' c16_o20_1
  clear c16_o20_1 ac16_o20_1
  have c17_o22_0 : w17.cell? ⟨w10.heap.size, 0, none⟩ = some (.int .i64 st2) := keepc hb' c16_o22_0
  clear c16_o22_0 ac16_o22_0
  have c17_o22_1 : w17.cell? ⟨w10.heap.size, 1, none⟩ = some (.slice (some ⟨g21, 0, none⟩) n2 n2) := keepc hb' c16_o22_1
  clear c16_o22_1 ac16_o22_1
  have ac17_a0_0 := fun o => keepa o c17_a0_0
  have ac17_a0_1 := fun o => keepa o c17_a0_1
  have ac17_a0_2 := fun o => keepa o c17_a0_2
  have ac17_a1_0 := fun o => keepa o c17_a1_0
  have ac17_a1_1 := fun o => keepa o c17_a1_1
  have ac17_a2_0 := fun o => keepa o c17_a2_0
  have ac17_a2_1 := fun o => keepa o c17_a2_1
  have ac17_o18_0 := fun o => keepa o c17_o18_0
  have ac17_o18_1 := fun o => keepa o c17_o18_1
  have ac17_o18_2 := fun o => keepa o c17_o18_2
  have ac17_o20_0 := fun o => keepa o c17_o20_0
  have ac17_o20_1 := fun o => keepa o c17_o20_1
  have ac17_o22_0 := fun o => keepa o c17_o22_0
  have ac17_o22_1 := fun o => keepa o c17_o22_1
  have rP0 := P0.out.below hb'; clear P0; have P0 := Lib.hid rP0; clear rP0
  have rP1 := P1.out.below hb'; clear P1; have P1 := Lib.hid rP1; clear rP1
  have rP2 := P2.out.below hb'; clear P2; have P2 := Lib.hid rP2; clear rP2
  have rFo18 := Fo18.out.below hb'; clear Fo18; have Fo18 := Lib.hid rFo18; clear rFo18
  have rFo20 := Fo20.out.below hb'; clear Fo20; have Fo20 := Lib.hid rFo20; clear rFo20
  have rFo22 := Fo22.out.below hb'; clear Fo22; have Fo22 := Lib.hid rFo22; clear rFo22
  have rFo28 := Fo28.out.below hb'; clear Fo28; have Fo28 := Lib.hid rFo28; clear rFo28
  have rB := below_chain B.out (by omega) hb'; clear B; have B := Lib.hid rB; clear rB
  have em17 : Below w15.heap.size w15 w17 := below_chain em16 (by omega) hb'
  clear hb hb'
  go_wp2_with fail
  refine hK _ _ ⟨⟨_, em17⟩, rfl⟩ ?_
  clear hK K
  repeat (first | (refine Mix.wpMix_read (by rfl) ?_; go_big_quiet_step (fail); refine wpQuiet_nil ?_) | (refine Mix.wpMix_pure (by rfl) ?_; go_big_quiet_step (fail); refine wpQuiet_nil ?_))
  (refine Mix.wpMix_nil ?_; try simp only [Exit.then])
  clear fx_c15_a0_0
  clear fx_c15_a0_1
  clear fx_c15_a0_2
  clear fx_c15_a1_0
  clear fx_c15_a1_1
  clear fx_c15_a2_0
  clear fx_c15_a2_1
  clear fx_c15_o18_0
  clear fx_c15_o18_1
  clear fx_c15_o18_2
  clear fx_c15_o20_0
  clear fx_c15_o20_1
  clear fx_c15_o22_0
  clear fx_c15_o22_1
  clear Fo28
  go_wp2
  go_ret
  exact ⟨rfl, B.out⟩
end Go.Proofs.Ytfahdgmlhinabaa
