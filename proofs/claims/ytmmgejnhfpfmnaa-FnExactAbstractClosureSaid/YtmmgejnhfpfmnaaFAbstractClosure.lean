/-
  FnExactAbstractClosure returns true for every input: its walk, out of the contracts.
-/
import Derived.Test.YtmmgejnhfpfmnaaLawMachine
import Derived.Test.YtmmgejnhfpfmnaaLawDfa
import Derived.Test.YtmmgejnhfpfmnaaLawII
import Derived.Test.YtmmgejnhfpfmnaaC28y
import Derived.Test.YtmmgejnhfpfmnaaOpen
namespace Go.Proofs.Ytmmgejnhfpfmnaa
open Go.RowKit

set_option maxHeartbeats 4000000 in
set_option maxRecDepth 100000 in
theorem walkAbstractClosure (sy0 : Int) (st0 : Int) (A0 : Option Addr) (n0 : Nat) (c0 : Nat) (xs0 : List (Int × Int × Int)) (st1 : Int) (A1 : Option Addr) (n1 : Nat) (c1 : Nat) (xs1 : List Int) (st2 : Int) (A2 : Option Addr) (n2 : Nat) (c2 : Nat) (xs2 : List Int) (w : World) (h0 : RdS w [sgX enc3 3 A0 n0 xs0]) (hb0_0 : n0 ≤ 9223372036854775807) (_o0 : i64ok sy0) (_p0 : i64ok st0) (_oo0 : ∀ x ∈ xs0, i64ok x.1 ∧ i64ok x.2.1 ∧ i64ok x.2.2) (h1 : RdI w A1 n1 xs1) (hb1 : n1 ≤ 9223372036854775807) (_o1 : i64ok st1) (_oo1 : ∀ x ∈ xs1, i64ok x) (h2 : RdI w A2 n2 xs2) (hb2 : n2 ≤ 9223372036854775807) (_o2 : i64ok st2) (_oo2 : ∀ x ∈ xs2, i64ok x) :
    Calls Try.prog 4 #[.agg #[.int .i64 sy0, .int .i64 st0, .slice A0 n0 c0], .agg #[.int .i64 st1, .slice A1 n1 c1], .agg #[.int .i64 st2, .slice A2 n2 c2]] w fun e w' => e = .returned (.bool true) ∧ Below w.heap.size w w' := by
  have P0 := Lib.hid (RdSU.mk' h0); clear h0
  have P1 := Lib.hid (RdU.mk' h1); clear h1
  have P2 := Lib.hid (RdU.mk' h2); clear h2
  go_enter Try.func4, Try.ntmps4
  go_wp2_with fail
  refine (szMachine_c _ _ _ _ _ xs0 _ _ hb0_0 (by omega) (by omega)).mono ?_
  rintro e w1 ⟨rfl, hb⟩
  have hb' : Below w.heap.size w w1 := (by first | (with_reducible exact hb) | (with_reducible exact up1 hb) | (with_reducible exact up2 hb) | (with_reducible exact up3 hb) | (with_reducible exact up4 hb) | (with_reducible exact below_of_drew hb) | (with_reducible exact below_of_drew (up1 hb)))
  have z1 := hb'.size
  have c1_a0_0 : w1.cell? ⟨w.heap.size, 0, none⟩ = some (.int .i64 sy0) := keepc hb (by first | (simp; done) | (rw [World.cell?_alloc_past _ _ _ (by simp <;> omega)]; simp; done) | (rw [World.cell?_alloc_past _ _ _ (by simp <;> omega), World.cell?_alloc_past _ _ _ (by simp <;> omega)]; simp; done) | (rw [World.cell?_alloc_past _ _ _ (by simp <;> omega), World.cell?_alloc_past _ _ _ (by simp <;> omega), World.cell?_alloc_past _ _ _ (by simp <;> omega)]; simp; done) | (rw [World.cell?_alloc_at _ _ _ _ (by simp)]; simp; done) | (rw [World.cell?_alloc_past _ _ _ (by simp <;> omega), World.cell?_alloc_at _ _ _ _ (by simp)]; simp; done) | (rw [World.cell?_alloc_past _ _ _ (by simp <;> omega), World.cell?_alloc_past _ _ _ (by simp <;> omega), World.cell?_alloc_at _ _ _ _ (by simp)]; simp; done) | (rw [World.cell?_alloc_past _ _ _ (by simp <;> omega), World.cell?_alloc_past _ _ _ (by simp <;> omega), World.cell?_alloc_past _ _ _ (by simp <;> omega), World.cell?_alloc_at _ _ _ _ (by simp)]; simp; done))
  have hl_c1_a0_0 : w.heap.size < w1.heap.size := World.block_lt_of_cell? w1 _ c1_a0_0
  have c1_a0_1 : w1.cell? ⟨w.heap.size, 1, none⟩ = some (.int .i64 st0) := keepc hb (by first | (simp; done) | (rw [World.cell?_alloc_past _ _ _ (by simp <;> omega)]; simp; done) | (rw [World.cell?_alloc_past _ _ _ (by simp <;> omega), World.cell?_alloc_past _ _ _ (by simp <;> omega)]; simp; done) | (rw [World.cell?_alloc_past _ _ _ (by simp <;> omega), World.cell?_alloc_past _ _ _ (by simp <;> omega), World.cell?_alloc_past _ _ _ (by simp <;> omega)]; simp; done) | (rw [World.cell?_alloc_at _ _ _ _ (by simp)]; simp; done) | (rw [World.cell?_alloc_past _ _ _ (by simp <;> omega), World.cell?_alloc_at _ _ _ _ (by simp)]; simp; done) | (rw [World.cell?_alloc_past _ _ _ (by simp <;> omega), World.cell?_alloc_past _ _ _ (by simp <;> omega), World.cell?_alloc_at _ _ _ _ (by simp)]; simp; done) | (rw [World.cell?_alloc_past _ _ _ (by simp <;> omega), World.cell?_alloc_past _ _ _ (by simp <;> omega), World.cell?_alloc_past _ _ _ (by simp <;> omega), World.cell?_alloc_at _ _ _ _ (by simp)]; simp; done))
  have c1_a0_2 : w1.cell? ⟨w.heap.size, 2, none⟩ = some (.slice A0 n0 c0) := keepc hb (by first | (simp; done) | (rw [World.cell?_alloc_past _ _ _ (by simp <;> omega)]; simp; done) | (rw [World.cell?_alloc_past _ _ _ (by simp <;> omega), World.cell?_alloc_past _ _ _ (by simp <;> omega)]; simp; done) | (rw [World.cell?_alloc_past _ _ _ (by simp <;> omega), World.cell?_alloc_past _ _ _ (by simp <;> omega), World.cell?_alloc_past _ _ _ (by simp <;> omega)]; simp; done) | (rw [World.cell?_alloc_at _ _ _ _ (by simp)]; simp; done) | (rw [World.cell?_alloc_past _ _ _ (by simp <;> omega), World.cell?_alloc_at _ _ _ _ (by simp)]; simp; done) | (rw [World.cell?_alloc_past _ _ _ (by simp <;> omega), World.cell?_alloc_past _ _ _ (by simp <;> omega), World.cell?_alloc_at _ _ _ _ (by simp)]; simp; done) | (rw [World.cell?_alloc_past _ _ _ (by simp <;> omega), World.cell?_alloc_past _ _ _ (by simp <;> omega), World.cell?_alloc_past _ _ _ (by simp <;> omega), World.cell?_alloc_at _ _ _ _ (by simp)]; simp; done))
  have c1_a1_0 : w1.cell? ⟨(w.heap.size + 1), 0, none⟩ = some (.int .i64 st1) := keepc hb (by first | (simp; done) | (rw [World.cell?_alloc_past _ _ _ (by simp <;> omega)]; simp; done) | (rw [World.cell?_alloc_past _ _ _ (by simp <;> omega), World.cell?_alloc_past _ _ _ (by simp <;> omega)]; simp; done) | (rw [World.cell?_alloc_past _ _ _ (by simp <;> omega), World.cell?_alloc_past _ _ _ (by simp <;> omega), World.cell?_alloc_past _ _ _ (by simp <;> omega)]; simp; done) | (rw [World.cell?_alloc_at _ _ _ _ (by simp)]; simp; done) | (rw [World.cell?_alloc_past _ _ _ (by simp <;> omega), World.cell?_alloc_at _ _ _ _ (by simp)]; simp; done) | (rw [World.cell?_alloc_past _ _ _ (by simp <;> omega), World.cell?_alloc_past _ _ _ (by simp <;> omega), World.cell?_alloc_at _ _ _ _ (by simp)]; simp; done) | (rw [World.cell?_alloc_past _ _ _ (by simp <;> omega), World.cell?_alloc_past _ _ _ (by simp <;> omega), World.cell?_alloc_past _ _ _ (by simp <;> omega), World.cell?_alloc_at _ _ _ _ (by simp)]; simp; done))
  have hl_c1_a1_0 : (w.heap.size + 1) < w1.heap.size := World.block_lt_of_cell? w1 _ c1_a1_0
  have c1_a1_1 : w1.cell? ⟨(w.heap.size + 1), 1, none⟩ = some (.slice A1 n1 c1) := keepc hb (by first | (simp; done) | (rw [World.cell?_alloc_past _ _ _ (by simp <;> omega)]; simp; done) | (rw [World.cell?_alloc_past _ _ _ (by simp <;> omega), World.cell?_alloc_past _ _ _ (by simp <;> omega)]; simp; done) | (rw [World.cell?_alloc_past _ _ _ (by simp <;> omega), World.cell?_alloc_past _ _ _ (by simp <;> omega), World.cell?_alloc_past _ _ _ (by simp <;> omega)]; simp; done) | (rw [World.cell?_alloc_at _ _ _ _ (by simp)]; simp; done) | (rw [World.cell?_alloc_past _ _ _ (by simp <;> omega), World.cell?_alloc_at _ _ _ _ (by simp)]; simp; done) | (rw [World.cell?_alloc_past _ _ _ (by simp <;> omega), World.cell?_alloc_past _ _ _ (by simp <;> omega), World.cell?_alloc_at _ _ _ _ (by simp)]; simp; done) | (rw [World.cell?_alloc_past _ _ _ (by simp <;> omega), World.cell?_alloc_past _ _ _ (by simp <;> omega), World.cell?_alloc_past _ _ _ (by simp <;> omega), World.cell?_alloc_at _ _ _ _ (by simp)]; simp; done))
  have c1_a2_0 : w1.cell? ⟨(w.heap.size + 1 + 1), 0, none⟩ = some (.int .i64 st2) := keepc hb (by first | (simp; done) | (rw [World.cell?_alloc_past _ _ _ (by simp <;> omega)]; simp; done) | (rw [World.cell?_alloc_past _ _ _ (by simp <;> omega), World.cell?_alloc_past _ _ _ (by simp <;> omega)]; simp; done) | (rw [World.cell?_alloc_past _ _ _ (by simp <;> omega), World.cell?_alloc_past _ _ _ (by simp <;> omega), World.cell?_alloc_past _ _ _ (by simp <;> omega)]; simp; done) | (rw [World.cell?_alloc_at _ _ _ _ (by simp)]; simp; done) | (rw [World.cell?_alloc_past _ _ _ (by simp <;> omega), World.cell?_alloc_at _ _ _ _ (by simp)]; simp; done) | (rw [World.cell?_alloc_past _ _ _ (by simp <;> omega), World.cell?_alloc_past _ _ _ (by simp <;> omega), World.cell?_alloc_at _ _ _ _ (by simp)]; simp; done) | (rw [World.cell?_alloc_past _ _ _ (by simp <;> omega), World.cell?_alloc_past _ _ _ (by simp <;> omega), World.cell?_alloc_past _ _ _ (by simp <;> omega), World.cell?_alloc_at _ _ _ _ (by simp)]; simp; done))
  have hl_c1_a2_0 : (w.heap.size + 1 + 1) < w1.heap.size := World.block_lt_of_cell? w1 _ c1_a2_0
  have c1_a2_1 : w1.cell? ⟨(w.heap.size + 1 + 1), 1, none⟩ = some (.slice A2 n2 c2) := keepc hb (by first | (simp; done) | (rw [World.cell?_alloc_past _ _ _ (by simp <;> omega)]; simp; done) | (rw [World.cell?_alloc_past _ _ _ (by simp <;> omega), World.cell?_alloc_past _ _ _ (by simp <;> omega)]; simp; done) | (rw [World.cell?_alloc_past _ _ _ (by simp <;> omega), World.cell?_alloc_past _ _ _ (by simp <;> omega), World.cell?_alloc_past _ _ _ (by simp <;> omega)]; simp; done) | (rw [World.cell?_alloc_at _ _ _ _ (by simp)]; simp; done) | (rw [World.cell?_alloc_past _ _ _ (by simp <;> omega), World.cell?_alloc_at _ _ _ _ (by simp)]; simp; done) | (rw [World.cell?_alloc_past _ _ _ (by simp <;> omega), World.cell?_alloc_past _ _ _ (by simp <;> omega), World.cell?_alloc_at _ _ _ _ (by simp)]; simp; done) | (rw [World.cell?_alloc_past _ _ _ (by simp <;> omega), World.cell?_alloc_past _ _ _ (by simp <;> omega), World.cell?_alloc_past _ _ _ (by simp <;> omega), World.cell?_alloc_at _ _ _ _ (by simp)]; simp; done))
  have ac1_a0_0 := fun o => keepa o c1_a0_0
  have ac1_a0_1 := fun o => keepa o c1_a0_1
  have ac1_a0_2 := fun o => keepa o c1_a0_2
  have ac1_a1_0 := fun o => keepa o c1_a1_0
  have ac1_a1_1 := fun o => keepa o c1_a1_1
  have ac1_a2_0 := fun o => keepa o c1_a2_0
  have ac1_a2_1 := fun o => keepa o c1_a2_1
  have rP0 := P0.out.below hb'; clear P0; have P0 := Lib.hid rP0; clear rP0
  have rP1 := P1.out.below hb'; clear P1; have P1 := Lib.hid rP1; clear rP1
  have rP2 := P2.out.below hb'; clear P2; have P2 := Lib.hid rP2; clear rP2
  have rB := hb'; have B := Lib.hid rB; clear rB
  clear hb hb'
  by_cases hs1 : 1048576 < n0
  · rw [szOf_neg' (by omega)]
    go_wp2
    go_ret
    exact ⟨rfl, B.out⟩
  rw [szOf_pos' (by omega)]
  have hs1' : (0 : Int) ≤ 1048576 - (n0 : Nat) := by omega
  go_wp2_with fail
  refine (szDfa_c _ _ _ _ _ _ hb1 (by omega) (by omega)).mono ?_
  rintro e w2 ⟨rfl, hb⟩
  have hb' : Below w1.heap.size w1 w2 := (by first | (with_reducible exact hb) | (with_reducible exact up1 hb) | (with_reducible exact up2 hb) | (with_reducible exact up3 hb) | (with_reducible exact up4 hb) | (with_reducible exact below_of_drew hb) | (with_reducible exact below_of_drew (up1 hb)))
  have z2 := hb'.size
  have c2_a0_0 : w2.cell? ⟨w.heap.size, 0, none⟩ = some (.int .i64 sy0) := keepc hb' c1_a0_0
  clear c1_a0_0 ac1_a0_0
  have c2_a0_1 : w2.cell? ⟨w.heap.size, 1, none⟩ = some (.int .i64 st0) := keepc hb' c1_a0_1
  clear c1_a0_1 ac1_a0_1
  have c2_a0_2 : w2.cell? ⟨w.heap.size, 2, none⟩ = some (.slice A0 n0 c0) := keepc hb' c1_a0_2
  clear c1_a0_2 ac1_a0_2
  have c2_a1_0 : w2.cell? ⟨(w.heap.size + 1), 0, none⟩ = some (.int .i64 st1) := keepc hb' c1_a1_0
  clear c1_a1_0 ac1_a1_0
  have c2_a1_1 : w2.cell? ⟨(w.heap.size + 1), 1, none⟩ = some (.slice A1 n1 c1) := keepc hb' c1_a1_1
  clear c1_a1_1 ac1_a1_1
  have c2_a2_0 : w2.cell? ⟨(w.heap.size + 1 + 1), 0, none⟩ = some (.int .i64 st2) := keepc hb' c1_a2_0
  clear c1_a2_0 ac1_a2_0
  have c2_a2_1 : w2.cell? ⟨(w.heap.size + 1 + 1), 1, none⟩ = some (.slice A2 n2 c2) := keepc hb' c1_a2_1
  clear c1_a2_1 ac1_a2_1
  have ac2_a0_0 := fun o => keepa o c2_a0_0
  have ac2_a0_1 := fun o => keepa o c2_a0_1
  have ac2_a0_2 := fun o => keepa o c2_a0_2
  have ac2_a1_0 := fun o => keepa o c2_a1_0
  have ac2_a1_1 := fun o => keepa o c2_a1_1
  have ac2_a2_0 := fun o => keepa o c2_a2_0
  have ac2_a2_1 := fun o => keepa o c2_a2_1
  have rP0 := P0.out.below hb'; clear P0; have P0 := Lib.hid rP0; clear rP0
  have rP1 := P1.out.below hb'; clear P1; have P1 := Lib.hid rP1; clear rP1
  have rP2 := P2.out.below hb'; clear P2; have P2 := Lib.hid rP2; clear rP2
  have rB := below_chain B.out (by omega) hb'; clear B; have B := Lib.hid rB; clear rB
  clear hb hb'
  by_cases hs2 : 1048576 - (n0 : Nat) < n1
  · rw [szOf_neg' (by omega)]
    go_wp2
    go_ret
    exact ⟨rfl, B.out⟩
  rw [szOf_pos' (by omega)]
  have hs2' : (0 : Int) ≤ 1048576 - (n0 : Nat) - (n1 : Nat) := by omega
  go_wp2_with fail
  refine (szDfa_c _ _ _ _ _ _ hb2 (by omega) (by omega)).mono ?_
  rintro e w3 ⟨rfl, hb⟩
  have hb' : Below w2.heap.size w2 w3 := (by first | (with_reducible exact hb) | (with_reducible exact up1 hb) | (with_reducible exact up2 hb) | (with_reducible exact up3 hb) | (with_reducible exact up4 hb) | (with_reducible exact below_of_drew hb) | (with_reducible exact below_of_drew (up1 hb)))
  have z3 := hb'.size
  have c3_a0_0 : w3.cell? ⟨w.heap.size, 0, none⟩ = some (.int .i64 sy0) := keepc hb' c2_a0_0
  clear c2_a0_0 ac2_a0_0
  have c3_a0_1 : w3.cell? ⟨w.heap.size, 1, none⟩ = some (.int .i64 st0) := keepc hb' c2_a0_1
  clear c2_a0_1 ac2_a0_1
  have c3_a0_2 : w3.cell? ⟨w.heap.size, 2, none⟩ = some (.slice A0 n0 c0) := keepc hb' c2_a0_2
  clear c2_a0_2 ac2_a0_2
  have c3_a1_0 : w3.cell? ⟨(w.heap.size + 1), 0, none⟩ = some (.int .i64 st1) := keepc hb' c2_a1_0
  clear c2_a1_0 ac2_a1_0
  have c3_a1_1 : w3.cell? ⟨(w.heap.size + 1), 1, none⟩ = some (.slice A1 n1 c1) := keepc hb' c2_a1_1
  clear c2_a1_1 ac2_a1_1
  have c3_a2_0 : w3.cell? ⟨(w.heap.size + 1 + 1), 0, none⟩ = some (.int .i64 st2) := keepc hb' c2_a2_0
  clear c2_a2_0 ac2_a2_0
  have c3_a2_1 : w3.cell? ⟨(w.heap.size + 1 + 1), 1, none⟩ = some (.slice A2 n2 c2) := keepc hb' c2_a2_1
  clear c2_a2_1 ac2_a2_1
  have ac3_a0_0 := fun o => keepa o c3_a0_0
  have ac3_a0_1 := fun o => keepa o c3_a0_1
  have ac3_a0_2 := fun o => keepa o c3_a0_2
  have ac3_a1_0 := fun o => keepa o c3_a1_0
  have ac3_a1_1 := fun o => keepa o c3_a1_1
  have ac3_a2_0 := fun o => keepa o c3_a2_0
  have ac3_a2_1 := fun o => keepa o c3_a2_1
  have rP0 := P0.out.below hb'; clear P0; have P0 := Lib.hid rP0; clear rP0
  have rP1 := P1.out.below hb'; clear P1; have P1 := Lib.hid rP1; clear rP1
  have rP2 := P2.out.below hb'; clear P2; have P2 := Lib.hid rP2; clear rP2
  have rB := below_chain B.out (by omega) hb'; clear B; have B := Lib.hid rB; clear rB
  clear hb hb'
  by_cases hs3 : 1048576 - (n0 : Nat) - (n1 : Nat) < n2
  · rw [szOf_neg' (by omega)]
    go_wp2
    go_ret
    exact ⟨rfl, B.out⟩
  rw [szOf_pos' (by omega)]
  have hs3' : (0 : Int) ≤ 1048576 - (n0 : Nat) - (n1 : Nat) - (n2 : Nat) := by omega
  go_wp2_with fail
  have fx_c3_a0_0 := Ext.cell c3_a0_0
  have fx_c3_a0_1 := Ext.cell c3_a0_1
  have fx_c3_a0_2 := Ext.cell c3_a0_2
  have fx_c3_a1_0 := Ext.cell c3_a1_0
  have fx_c3_a1_1 := Ext.cell c3_a1_1
  have fx_c3_a2_0 := Ext.cell c3_a2_0
  have fx_c3_a2_1 := Ext.cell c3_a2_1
  refine Mix.wp_region_mix [3, 1, 3, 1, 3, 1, 1, 0, 0, 0, 0, 0] (fun w' => ∃ x : Ext w3, w' = x.w) (by kernel_rfl) (by kernel_rfl) (InExt.drew _) ?_
  repeat (first | (refine Mix.wpMix_read (by rfl) ?_; go_big_quiet_step (fail); refine wpQuiet_nil ?_) | (refine Mix.wpMix_pure (by rfl) ?_; go_big_quiet_step (fail); refine wpQuiet_nil ?_))
  refine Mix.wpMix_chg (by rfl) (fun K hK => ?_)
  go_wp2_with fail
  refine (toMachine_c _ _ _ _ _ _ _ (by exact (P0.out.rd)) (by omega)).mono ?_
  rintro e w4 ⟨g011, rfl, q4, hb⟩
  have hb' : Below w3.heap.size w3 w4 := (by first | (with_reducible exact hb) | (with_reducible exact up1 hb) | (with_reducible exact up2 hb) | (with_reducible exact up3 hb) | (with_reducible exact up4 hb) | (with_reducible exact below_of_drew hb) | (with_reducible exact below_of_drew (up1 hb)))
  have z4 := hb'.size
  have c4_a0_0 : w4.cell? ⟨w.heap.size, 0, none⟩ = some (.int .i64 sy0) := keepc hb' c3_a0_0
  clear c3_a0_0 ac3_a0_0
  have c4_a0_1 : w4.cell? ⟨w.heap.size, 1, none⟩ = some (.int .i64 st0) := keepc hb' c3_a0_1
  clear c3_a0_1 ac3_a0_1
  have c4_a0_2 : w4.cell? ⟨w.heap.size, 2, none⟩ = some (.slice A0 n0 c0) := keepc hb' c3_a0_2
  clear c3_a0_2 ac3_a0_2
  have c4_a1_0 : w4.cell? ⟨(w.heap.size + 1), 0, none⟩ = some (.int .i64 st1) := keepc hb' c3_a1_0
  clear c3_a1_0 ac3_a1_0
  have c4_a1_1 : w4.cell? ⟨(w.heap.size + 1), 1, none⟩ = some (.slice A1 n1 c1) := keepc hb' c3_a1_1
  clear c3_a1_1 ac3_a1_1
  have c4_a2_0 : w4.cell? ⟨(w.heap.size + 1 + 1), 0, none⟩ = some (.int .i64 st2) := keepc hb' c3_a2_0
  clear c3_a2_0 ac3_a2_0
  have c4_a2_1 : w4.cell? ⟨(w.heap.size + 1 + 1), 1, none⟩ = some (.slice A2 n2 c2) := keepc hb' c3_a2_1
  clear c3_a2_1 ac3_a2_1
  have ac4_a0_0 := fun o => keepa o c4_a0_0
  have ac4_a0_1 := fun o => keepa o c4_a0_1
  have ac4_a0_2 := fun o => keepa o c4_a0_2
  have ac4_a1_0 := fun o => keepa o c4_a1_0
  have ac4_a1_1 := fun o => keepa o c4_a1_1
  have ac4_a2_0 := fun o => keepa o c4_a2_0
  have ac4_a2_1 := fun o => keepa o c4_a2_1
  have rP0 := P0.out.below hb'; clear P0; have P0 := Lib.hid rP0; clear rP0
  have rP1 := P1.out.below hb'; clear P1; have P1 := Lib.hid rP1; clear rP1
  have rP2 := P2.out.below hb'; clear P2; have P2 := Lib.hid rP2; clear rP2
  have rB := below_chain B.out (by omega) hb'; clear B; have B := Lib.hid rB; clear rB
  have Fo12 := Lib.hid q4; clear q4
  have em4 : Below w3.heap.size w3 w4 := hb'
  clear hb hb'
  go_wp2_with fail
  refine hK _ _ ⟨⟨_, em4⟩, rfl⟩ ?_
  clear hK K
  repeat (first | (refine Mix.wpMix_read (by rfl) ?_; go_big_quiet_step (fail); refine wpQuiet_nil ?_) | (refine Mix.wpMix_pure (by rfl) ?_; go_big_quiet_step (fail); refine wpQuiet_nil ?_))
  refine Mix.wpMix_chg (by rfl) (fun K hK => ?_)
  go_wp2_with fail
  refine (toDfa_c _ _ _ _ _ _ (by exact (P1.out.1)) (by omega)).mono ?_
  rintro e w5 ⟨g13, rfl, q5, hb⟩
  have hb' : Below w4.heap.size w4 w5 := (by first | (with_reducible exact hb) | (with_reducible exact up1 hb) | (with_reducible exact up2 hb) | (with_reducible exact up3 hb) | (with_reducible exact up4 hb) | (with_reducible exact below_of_drew hb) | (with_reducible exact below_of_drew (up1 hb)))
  have z5 := hb'.size
  have c5_a0_0 : w5.cell? ⟨w.heap.size, 0, none⟩ = some (.int .i64 sy0) := keepc hb' c4_a0_0
  clear c4_a0_0 ac4_a0_0
  have c5_a0_1 : w5.cell? ⟨w.heap.size, 1, none⟩ = some (.int .i64 st0) := keepc hb' c4_a0_1
  clear c4_a0_1 ac4_a0_1
  have c5_a0_2 : w5.cell? ⟨w.heap.size, 2, none⟩ = some (.slice A0 n0 c0) := keepc hb' c4_a0_2
  clear c4_a0_2 ac4_a0_2
  have c5_a1_0 : w5.cell? ⟨(w.heap.size + 1), 0, none⟩ = some (.int .i64 st1) := keepc hb' c4_a1_0
  clear c4_a1_0 ac4_a1_0
  have c5_a1_1 : w5.cell? ⟨(w.heap.size + 1), 1, none⟩ = some (.slice A1 n1 c1) := keepc hb' c4_a1_1
  clear c4_a1_1 ac4_a1_1
  have c5_a2_0 : w5.cell? ⟨(w.heap.size + 1 + 1), 0, none⟩ = some (.int .i64 st2) := keepc hb' c4_a2_0
  clear c4_a2_0 ac4_a2_0
  have c5_a2_1 : w5.cell? ⟨(w.heap.size + 1 + 1), 1, none⟩ = some (.slice A2 n2 c2) := keepc hb' c4_a2_1
  clear c4_a2_1 ac4_a2_1
  have ac5_a0_0 := fun o => keepa o c5_a0_0
  have ac5_a0_1 := fun o => keepa o c5_a0_1
  have ac5_a0_2 := fun o => keepa o c5_a0_2
  have ac5_a1_0 := fun o => keepa o c5_a1_0
  have ac5_a1_1 := fun o => keepa o c5_a1_1
  have ac5_a2_0 := fun o => keepa o c5_a2_0
  have ac5_a2_1 := fun o => keepa o c5_a2_1
  have rP0 := P0.out.below hb'; clear P0; have P0 := Lib.hid rP0; clear rP0
  have rP1 := P1.out.below hb'; clear P1; have P1 := Lib.hid rP1; clear rP1
  have rP2 := P2.out.below hb'; clear P2; have P2 := Lib.hid rP2; clear rP2
  have rFo12 := Fo12.out.below hb'; clear Fo12; have Fo12 := Lib.hid rFo12; clear rFo12
  have rB := below_chain B.out (by omega) hb'; clear B; have B := Lib.hid rB; clear rB
  have Fo14 := Lib.hid q5; clear q5
  have em5 : Below w3.heap.size w3 w5 := below_chain em4 (by omega) hb'
  clear hb hb'
  go_wp2_with fail
  refine hK _ _ ⟨⟨_, em5⟩, rfl⟩ ?_
  clear hK K
  repeat (first | (refine Mix.wpMix_read (by rfl) ?_; go_big_quiet_step (fail); refine wpQuiet_nil ?_) | (refine Mix.wpMix_pure (by rfl) ?_; go_big_quiet_step (fail); refine wpQuiet_nil ?_))
  refine Mix.wpMix_chg (by rfl) (fun K hK => ?_)
  go_wp2_with fail
  refine (toDfa_c _ _ _ _ _ _ (by exact (P2.out.1)) (by omega)).mono ?_
  rintro e w6 ⟨g15, rfl, q6, hb⟩
  have hb' : Below w5.heap.size w5 w6 := (by first | (with_reducible exact hb) | (with_reducible exact up1 hb) | (with_reducible exact up2 hb) | (with_reducible exact up3 hb) | (with_reducible exact up4 hb) | (with_reducible exact below_of_drew hb) | (with_reducible exact below_of_drew (up1 hb)))
  have z6 := hb'.size
  have c6_a0_0 : w6.cell? ⟨w.heap.size, 0, none⟩ = some (.int .i64 sy0) := keepc hb' c5_a0_0
  clear c5_a0_0 ac5_a0_0
  have c6_a0_1 : w6.cell? ⟨w.heap.size, 1, none⟩ = some (.int .i64 st0) := keepc hb' c5_a0_1
  clear c5_a0_1 ac5_a0_1
  have c6_a0_2 : w6.cell? ⟨w.heap.size, 2, none⟩ = some (.slice A0 n0 c0) := keepc hb' c5_a0_2
  clear c5_a0_2 ac5_a0_2
  have c6_a1_0 : w6.cell? ⟨(w.heap.size + 1), 0, none⟩ = some (.int .i64 st1) := keepc hb' c5_a1_0
  clear c5_a1_0 ac5_a1_0
  have c6_a1_1 : w6.cell? ⟨(w.heap.size + 1), 1, none⟩ = some (.slice A1 n1 c1) := keepc hb' c5_a1_1
  clear c5_a1_1 ac5_a1_1
  have c6_a2_0 : w6.cell? ⟨(w.heap.size + 1 + 1), 0, none⟩ = some (.int .i64 st2) := keepc hb' c5_a2_0
  clear c5_a2_0 ac5_a2_0
  have c6_a2_1 : w6.cell? ⟨(w.heap.size + 1 + 1), 1, none⟩ = some (.slice A2 n2 c2) := keepc hb' c5_a2_1
  clear c5_a2_1 ac5_a2_1
  have ac6_a0_0 := fun o => keepa o c6_a0_0
  have ac6_a0_1 := fun o => keepa o c6_a0_1
  have ac6_a0_2 := fun o => keepa o c6_a0_2
  have ac6_a1_0 := fun o => keepa o c6_a1_0
  have ac6_a1_1 := fun o => keepa o c6_a1_1
  have ac6_a2_0 := fun o => keepa o c6_a2_0
  have ac6_a2_1 := fun o => keepa o c6_a2_1
  have rP0 := P0.out.below hb'; clear P0; have P0 := Lib.hid rP0; clear rP0
  have rP1 := P1.out.below hb'; clear P1; have P1 := Lib.hid rP1; clear rP1
  have rP2 := P2.out.below hb'; clear P2; have P2 := Lib.hid rP2; clear rP2
  have rFo12 := Fo12.out.below hb'; clear Fo12; have Fo12 := Lib.hid rFo12; clear rFo12
  have rFo14 := Fo14.out.below hb'; clear Fo14; have Fo14 := Lib.hid rFo14; clear rFo14
  have rB := below_chain B.out (by omega) hb'; clear B; have B := Lib.hid rB; clear rB
  have Fo16 := Lib.hid q6; clear q6
  have em6 : Below w3.heap.size w3 w6 := below_chain em5 (by omega) hb'
  clear hb hb'
  go_wp2_with fail
  refine hK _ _ ⟨⟨_, em6⟩, rfl⟩ ?_
  clear hK K
  refine Mix.wpMix_chg (by rfl) (fun K hK => ?_)
  go_wp2_with fail
  refine (sAbstractClosure_c _ _ _ _ _ _ _ _ _ _ _ _ _ _ _ _ _ (by exact (Fo12.out.rd)) (by exact (Fo14.out.rdI)) (by exact (Fo16.out.rdI)) (by omega) (by omega) (by omega)).mono ?_
  rintro e w7 ⟨A17, n18, c19, its20, rfl, q21, l22, hb⟩
  have hb' : Below w6.heap.size w6 w7 := (by first | (with_reducible exact hb) | (with_reducible exact up1 hb) | (with_reducible exact up2 hb) | (with_reducible exact up3 hb) | (with_reducible exact up4 hb) | (with_reducible exact below_of_drew hb) | (with_reducible exact below_of_drew (up1 hb)))
  have z7 := hb'.size
  have c7_a0_0 : w7.cell? ⟨w.heap.size, 0, none⟩ = some (.int .i64 sy0) := keepc hb' c6_a0_0
  clear c6_a0_0 ac6_a0_0
  have c7_a0_1 : w7.cell? ⟨w.heap.size, 1, none⟩ = some (.int .i64 st0) := keepc hb' c6_a0_1
  clear c6_a0_1 ac6_a0_1
  have c7_a0_2 : w7.cell? ⟨w.heap.size, 2, none⟩ = some (.slice A0 n0 c0) := keepc hb' c6_a0_2
  clear c6_a0_2 ac6_a0_2
  have c7_a1_0 : w7.cell? ⟨(w.heap.size + 1), 0, none⟩ = some (.int .i64 st1) := keepc hb' c6_a1_0
  clear c6_a1_0 ac6_a1_0
  have c7_a1_1 : w7.cell? ⟨(w.heap.size + 1), 1, none⟩ = some (.slice A1 n1 c1) := keepc hb' c6_a1_1
  clear c6_a1_1 ac6_a1_1
  have c7_a2_0 : w7.cell? ⟨(w.heap.size + 1 + 1), 0, none⟩ = some (.int .i64 st2) := keepc hb' c6_a2_0
  clear c6_a2_0 ac6_a2_0
  have c7_a2_1 : w7.cell? ⟨(w.heap.size + 1 + 1), 1, none⟩ = some (.slice A2 n2 c2) := keepc hb' c6_a2_1
  clear c6_a2_1 ac6_a2_1
  have ac7_a0_0 := fun o => keepa o c7_a0_0
  have ac7_a0_1 := fun o => keepa o c7_a0_1
  have ac7_a0_2 := fun o => keepa o c7_a0_2
  have ac7_a1_0 := fun o => keepa o c7_a1_0
  have ac7_a1_1 := fun o => keepa o c7_a1_1
  have ac7_a2_0 := fun o => keepa o c7_a2_0
  have ac7_a2_1 := fun o => keepa o c7_a2_1
  have rP0 := P0.out.below hb'; clear P0; have P0 := Lib.hid rP0; clear rP0
  have rP1 := P1.out.below hb'; clear P1; have P1 := Lib.hid rP1; clear rP1
  have rP2 := P2.out.below hb'; clear P2; have P2 := Lib.hid rP2; clear rP2
  have rFo12 := Fo12.out.below hb'; clear Fo12; have Fo12 := Lib.hid rFo12; clear rFo12
  have rFo14 := Fo14.out.below hb'; clear Fo14; have Fo14 := Lib.hid rFo14; clear rFo14
  have rFo16 := Fo16.out.below hb'; clear Fo16; have Fo16 := Lib.hid rFo16; clear rFo16
  have rB := below_chain B.out (by omega) hb'; clear B; have B := Lib.hid rB; clear rB
  have Fo23 := Lib.hid q21; clear q21
  obtain ⟨ln_o23, bI0_o23, hs0_o23, bm0_o23⟩ := l22
  have hI0_o23 := (fun t ht => Nat.le_trans (bI0_o23 t ht) (by omega) : ∀ t ∈ its20, t.n ≤ 1000000000); have hm0_o23 := Lib.hid bm0_o23; clear bI0_o23 bm0_o23
  have em7 : Below w3.heap.size w3 w7 := below_chain em6 (by omega) hb'
  clear hb hb'
  go_wp2_with fail
  refine hK _ _ ⟨⟨_, em7⟩, rfl⟩ ?_
  clear hK K
  repeat (first | (refine Mix.wpMix_read (by rfl) ?_; go_big_quiet_step (fail); refine wpQuiet_nil ?_) | (refine Mix.wpMix_pure (by rfl) ?_; go_big_quiet_step (fail); refine wpQuiet_nil ?_))
  (refine Mix.wpMix_nil ?_; try simp only [Exit.then])
  clear fx_c3_a0_0
  clear fx_c3_a0_1
  clear fx_c3_a0_2
  clear fx_c3_a1_0
  clear fx_c3_a1_1
  clear fx_c3_a2_0
  clear fx_c3_a2_1
  clear Fo12
  clear Fo14
  clear Fo16
  go_wp2_with fail
  refine (toMachine_c _ _ _ _ _ _ _ (by exact (P0.out.rd)) (by omega)).mono ?_
  rintro e w8 ⟨g024, rfl, q8, hb⟩
  have hb' : Below w7.heap.size w7 w8 := (by first | (with_reducible exact hb) | (with_reducible exact up1 hb) | (with_reducible exact up2 hb) | (with_reducible exact up3 hb) | (with_reducible exact up4 hb) | (with_reducible exact below_of_drew hb) | (with_reducible exact below_of_drew (up1 hb)))
  have z8 := hb'.size
  have c8_a0_0 : w8.cell? ⟨w.heap.size, 0, none⟩ = some (.int .i64 sy0) := keepc hb' c7_a0_0
  clear c7_a0_0 ac7_a0_0
  have c8_a0_1 : w8.cell? ⟨w.heap.size, 1, none⟩ = some (.int .i64 st0) := keepc hb' c7_a0_1
  clear c7_a0_1 ac7_a0_1
  have c8_a0_2 : w8.cell? ⟨w.heap.size, 2, none⟩ = some (.slice A0 n0 c0) := keepc hb' c7_a0_2
  clear c7_a0_2 ac7_a0_2
  have c8_a1_0 : w8.cell? ⟨(w.heap.size + 1), 0, none⟩ = some (.int .i64 st1) := keepc hb' c7_a1_0
  clear c7_a1_0 ac7_a1_0
  have c8_a1_1 : w8.cell? ⟨(w.heap.size + 1), 1, none⟩ = some (.slice A1 n1 c1) := keepc hb' c7_a1_1
  clear c7_a1_1 ac7_a1_1
  have c8_a2_0 : w8.cell? ⟨(w.heap.size + 1 + 1), 0, none⟩ = some (.int .i64 st2) := keepc hb' c7_a2_0
  clear c7_a2_0 ac7_a2_0
  have c8_a2_1 : w8.cell? ⟨(w.heap.size + 1 + 1), 1, none⟩ = some (.slice A2 n2 c2) := keepc hb' c7_a2_1
  clear c7_a2_1 ac7_a2_1
  have ac8_a0_0 := fun o => keepa o c8_a0_0
  have ac8_a0_1 := fun o => keepa o c8_a0_1
  have ac8_a0_2 := fun o => keepa o c8_a0_2
  have ac8_a1_0 := fun o => keepa o c8_a1_0
  have ac8_a1_1 := fun o => keepa o c8_a1_1
  have ac8_a2_0 := fun o => keepa o c8_a2_0
  have ac8_a2_1 := fun o => keepa o c8_a2_1
  have rP0 := P0.out.below hb'; clear P0; have P0 := Lib.hid rP0; clear rP0
  have rP1 := P1.out.below hb'; clear P1; have P1 := Lib.hid rP1; clear rP1
  have rP2 := P2.out.below hb'; clear P2; have P2 := Lib.hid rP2; clear rP2
  have rFo23 := Fo23.out.below hb'; clear Fo23; have Fo23 := Lib.hid rFo23; clear rFo23
  have rB := below_chain B.out (by omega) hb'; clear B; have B := Lib.hid rB; clear rB
  have Fo25 := Lib.hid q8; clear q8
  clear hb hb'
  go_wp2_with fail
  refine (toDfa_c _ _ _ _ _ _ (by exact ((P1.out.1).alloc _)) (by omega)).mono ?_
  rintro e w9 ⟨g26, rfl, q9, hb⟩
  try simp only [World.size_alloc] at q9
  have hb' : Below w8.heap.size w8 w9 := (by first | (with_reducible exact hb) | (with_reducible exact up1 hb) | (with_reducible exact up2 hb) | (with_reducible exact up3 hb) | (with_reducible exact up4 hb) | (with_reducible exact below_of_drew hb) | (with_reducible exact below_of_drew (up1 hb)))
  have z9 := hb'.size
  have c9_a0_0 : w9.cell? ⟨w.heap.size, 0, none⟩ = some (.int .i64 sy0) := keepc hb' c8_a0_0
  clear c8_a0_0 ac8_a0_0
  have c9_a0_1 : w9.cell? ⟨w.heap.size, 1, none⟩ = some (.int .i64 st0) := keepc hb' c8_a0_1
  clear c8_a0_1 ac8_a0_1
  have c9_a0_2 : w9.cell? ⟨w.heap.size, 2, none⟩ = some (.slice A0 n0 c0) := keepc hb' c8_a0_2
  clear c8_a0_2 ac8_a0_2
  have c9_a1_0 : w9.cell? ⟨(w.heap.size + 1), 0, none⟩ = some (.int .i64 st1) := keepc hb' c8_a1_0
  clear c8_a1_0 ac8_a1_0
  have c9_a1_1 : w9.cell? ⟨(w.heap.size + 1), 1, none⟩ = some (.slice A1 n1 c1) := keepc hb' c8_a1_1
  clear c8_a1_1 ac8_a1_1
  have c9_a2_0 : w9.cell? ⟨(w.heap.size + 1 + 1), 0, none⟩ = some (.int .i64 st2) := keepc hb' c8_a2_0
  clear c8_a2_0 ac8_a2_0
  have c9_a2_1 : w9.cell? ⟨(w.heap.size + 1 + 1), 1, none⟩ = some (.slice A2 n2 c2) := keepc hb' c8_a2_1
  clear c8_a2_1 ac8_a2_1
  have c9_o25_0 : w9.cell? ⟨w8.heap.size, 0, none⟩ = some (.int .i64 sy0) := keepc hb (by first | (simp; done) | (rw [World.cell?_alloc_past _ _ _ (by simp <;> omega)]; simp; done) | (rw [World.cell?_alloc_past _ _ _ (by simp <;> omega), World.cell?_alloc_past _ _ _ (by simp <;> omega)]; simp; done) | (rw [World.cell?_alloc_past _ _ _ (by simp <;> omega), World.cell?_alloc_past _ _ _ (by simp <;> omega), World.cell?_alloc_past _ _ _ (by simp <;> omega)]; simp; done) | (rw [World.cell?_alloc_at _ _ _ _ (by simp)]; simp; done) | (rw [World.cell?_alloc_past _ _ _ (by simp <;> omega), World.cell?_alloc_at _ _ _ _ (by simp)]; simp; done) | (rw [World.cell?_alloc_past _ _ _ (by simp <;> omega), World.cell?_alloc_past _ _ _ (by simp <;> omega), World.cell?_alloc_at _ _ _ _ (by simp)]; simp; done) | (rw [World.cell?_alloc_past _ _ _ (by simp <;> omega), World.cell?_alloc_past _ _ _ (by simp <;> omega), World.cell?_alloc_past _ _ _ (by simp <;> omega), World.cell?_alloc_at _ _ _ _ (by simp)]; simp; done))
  have hl_c9_o25_0 : w8.heap.size < w9.heap.size := World.block_lt_of_cell? w9 _ c9_o25_0
  have c9_o25_1 : w9.cell? ⟨w8.heap.size, 1, none⟩ = some (.int .i64 st0) := keepc hb (by first | (simp; done) | (rw [World.cell?_alloc_past _ _ _ (by simp <;> omega)]; simp; done) | (rw [World.cell?_alloc_past _ _ _ (by simp <;> omega), World.cell?_alloc_past _ _ _ (by simp <;> omega)]; simp; done) | (rw [World.cell?_alloc_past _ _ _ (by simp <;> omega), World.cell?_alloc_past _ _ _ (by simp <;> omega), World.cell?_alloc_past _ _ _ (by simp <;> omega)]; simp; done) | (rw [World.cell?_alloc_at _ _ _ _ (by simp)]; simp; done) | (rw [World.cell?_alloc_past _ _ _ (by simp <;> omega), World.cell?_alloc_at _ _ _ _ (by simp)]; simp; done) | (rw [World.cell?_alloc_past _ _ _ (by simp <;> omega), World.cell?_alloc_past _ _ _ (by simp <;> omega), World.cell?_alloc_at _ _ _ _ (by simp)]; simp; done) | (rw [World.cell?_alloc_past _ _ _ (by simp <;> omega), World.cell?_alloc_past _ _ _ (by simp <;> omega), World.cell?_alloc_past _ _ _ (by simp <;> omega), World.cell?_alloc_at _ _ _ _ (by simp)]; simp; done))
  have c9_o25_2 : w9.cell? ⟨w8.heap.size, 2, none⟩ = some (.slice (some ⟨g024, 0, none⟩) n0 n0) := keepc hb (by first | (simp; done) | (rw [World.cell?_alloc_past _ _ _ (by simp <;> omega)]; simp; done) | (rw [World.cell?_alloc_past _ _ _ (by simp <;> omega), World.cell?_alloc_past _ _ _ (by simp <;> omega)]; simp; done) | (rw [World.cell?_alloc_past _ _ _ (by simp <;> omega), World.cell?_alloc_past _ _ _ (by simp <;> omega), World.cell?_alloc_past _ _ _ (by simp <;> omega)]; simp; done) | (rw [World.cell?_alloc_at _ _ _ _ (by simp)]; simp; done) | (rw [World.cell?_alloc_past _ _ _ (by simp <;> omega), World.cell?_alloc_at _ _ _ _ (by simp)]; simp; done) | (rw [World.cell?_alloc_past _ _ _ (by simp <;> omega), World.cell?_alloc_past _ _ _ (by simp <;> omega), World.cell?_alloc_at _ _ _ _ (by simp)]; simp; done) | (rw [World.cell?_alloc_past _ _ _ (by simp <;> omega), World.cell?_alloc_past _ _ _ (by simp <;> omega), World.cell?_alloc_past _ _ _ (by simp <;> omega), World.cell?_alloc_at _ _ _ _ (by simp)]; simp; done))
  have ac9_a0_0 := fun o => keepa o c9_a0_0
  have ac9_a0_1 := fun o => keepa o c9_a0_1
  have ac9_a0_2 := fun o => keepa o c9_a0_2
  have ac9_a1_0 := fun o => keepa o c9_a1_0
  have ac9_a1_1 := fun o => keepa o c9_a1_1
  have ac9_a2_0 := fun o => keepa o c9_a2_0
  have ac9_a2_1 := fun o => keepa o c9_a2_1
  have ac9_o25_0 := fun o => keepa o c9_o25_0
  have ac9_o25_1 := fun o => keepa o c9_o25_1
  have ac9_o25_2 := fun o => keepa o c9_o25_2
  have rP0 := P0.out.below hb'; clear P0; have P0 := Lib.hid rP0; clear rP0
  have rP1 := P1.out.below hb'; clear P1; have P1 := Lib.hid rP1; clear rP1
  have rP2 := P2.out.below hb'; clear P2; have P2 := Lib.hid rP2; clear rP2
  have rFo23 := Fo23.out.below hb'; clear Fo23; have Fo23 := Lib.hid rFo23; clear rFo23
  have rFo25 := Fo25.out.below hb'; clear Fo25; have Fo25 := Lib.hid rFo25; clear rFo25
  have rB := below_chain B.out (by omega) hb'; clear B; have B := Lib.hid rB; clear rB
  have Fo27 := Lib.hid q9; clear q9
  clear hb hb'
  go_wp2_with fail
  refine (toDfa_c _ _ _ _ _ _ (by exact ((P2.out.1).alloc _)) (by omega)).mono ?_
  rintro e w10 ⟨g28, rfl, q10, hb⟩
  try simp only [World.size_alloc] at q10
  have hb' : Below w9.heap.size w9 w10 := (by first | (with_reducible exact hb) | (with_reducible exact up1 hb) | (with_reducible exact up2 hb) | (with_reducible exact up3 hb) | (with_reducible exact up4 hb) | (with_reducible exact below_of_drew hb) | (with_reducible exact below_of_drew (up1 hb)))
  have z10 := hb'.size
  have c10_a0_0 : w10.cell? ⟨w.heap.size, 0, none⟩ = some (.int .i64 sy0) := keepc hb' c9_a0_0
  clear c9_a0_0 ac9_a0_0
  have c10_a0_1 : w10.cell? ⟨w.heap.size, 1, none⟩ = some (.int .i64 st0) := keepc hb' c9_a0_1
  clear c9_a0_1 ac9_a0_1
  have c10_a0_2 : w10.cell? ⟨w.heap.size, 2, none⟩ = some (.slice A0 n0 c0) := keepc hb' c9_a0_2
  clear c9_a0_2 ac9_a0_2
  have c10_a1_0 : w10.cell? ⟨(w.heap.size + 1), 0, none⟩ = some (.int .i64 st1) := keepc hb' c9_a1_0
  clear c9_a1_0 ac9_a1_0
  have c10_a1_1 : w10.cell? ⟨(w.heap.size + 1), 1, none⟩ = some (.slice A1 n1 c1) := keepc hb' c9_a1_1
  clear c9_a1_1 ac9_a1_1
  have c10_a2_0 : w10.cell? ⟨(w.heap.size + 1 + 1), 0, none⟩ = some (.int .i64 st2) := keepc hb' c9_a2_0
  clear c9_a2_0 ac9_a2_0
  have c10_a2_1 : w10.cell? ⟨(w.heap.size + 1 + 1), 1, none⟩ = some (.slice A2 n2 c2) := keepc hb' c9_a2_1
  clear c9_a2_1 ac9_a2_1
  have c10_o25_0 : w10.cell? ⟨w8.heap.size, 0, none⟩ = some (.int .i64 sy0) := keepc hb' c9_o25_0
  clear c9_o25_0 ac9_o25_0
  have c10_o25_1 : w10.cell? ⟨w8.heap.size, 1, none⟩ = some (.int .i64 st0) := keepc hb' c9_o25_1
  clear c9_o25_1 ac9_o25_1
  have c10_o25_2 : w10.cell? ⟨w8.heap.size, 2, none⟩ = some (.slice (some ⟨g024, 0, none⟩) n0 n0) := keepc hb' c9_o25_2
  clear c9_o25_2 ac9_o25_2
  have c10_o27_0 : w10.cell? ⟨w9.heap.size, 0, none⟩ = some (.int .i64 st1) := keepc hb (by first | (simp; done) | (rw [World.cell?_alloc_past _ _ _ (by simp <;> omega)]; simp; done) | (rw [World.cell?_alloc_past _ _ _ (by simp <;> omega), World.cell?_alloc_past _ _ _ (by simp <;> omega)]; simp; done) | (rw [World.cell?_alloc_past _ _ _ (by simp <;> omega), World.cell?_alloc_past _ _ _ (by simp <;> omega), World.cell?_alloc_past _ _ _ (by simp <;> omega)]; simp; done) | (rw [World.cell?_alloc_at _ _ _ _ (by simp)]; simp; done) | (rw [World.cell?_alloc_past _ _ _ (by simp <;> omega), World.cell?_alloc_at _ _ _ _ (by simp)]; simp; done) | (rw [World.cell?_alloc_past _ _ _ (by simp <;> omega), World.cell?_alloc_past _ _ _ (by simp <;> omega), World.cell?_alloc_at _ _ _ _ (by simp)]; simp; done) | (rw [World.cell?_alloc_past _ _ _ (by simp <;> omega), World.cell?_alloc_past _ _ _ (by simp <;> omega), World.cell?_alloc_past _ _ _ (by simp <;> omega), World.cell?_alloc_at _ _ _ _ (by simp)]; simp; done))
  have hl_c10_o27_0 : w9.heap.size < w10.heap.size := World.block_lt_of_cell? w10 _ c10_o27_0
  have c10_o27_1 : w10.cell? ⟨w9.heap.size, 1, none⟩ = some (.slice (some ⟨g26, 0, none⟩) n1 n1) := keepc hb (by first | (simp; done) | (rw [World.cell?_alloc_past _ _ _ (by simp <;> omega)]; simp; done) | (rw [World.cell?_alloc_past _ _ _ (by simp <;> omega), World.cell?_alloc_past _ _ _ (by simp <;> omega)]; simp; done) | (rw [World.cell?_alloc_past _ _ _ (by simp <;> omega), World.cell?_alloc_past _ _ _ (by simp <;> omega), World.cell?_alloc_past _ _ _ (by simp <;> omega)]; simp; done) | (rw [World.cell?_alloc_at _ _ _ _ (by simp)]; simp; done) | (rw [World.cell?_alloc_past _ _ _ (by simp <;> omega), World.cell?_alloc_at _ _ _ _ (by simp)]; simp; done) | (rw [World.cell?_alloc_past _ _ _ (by simp <;> omega), World.cell?_alloc_past _ _ _ (by simp <;> omega), World.cell?_alloc_at _ _ _ _ (by simp)]; simp; done) | (rw [World.cell?_alloc_past _ _ _ (by simp <;> omega), World.cell?_alloc_past _ _ _ (by simp <;> omega), World.cell?_alloc_past _ _ _ (by simp <;> omega), World.cell?_alloc_at _ _ _ _ (by simp)]; simp; done))
  have ac10_a0_0 := fun o => keepa o c10_a0_0
  have ac10_a0_1 := fun o => keepa o c10_a0_1
  have ac10_a0_2 := fun o => keepa o c10_a0_2
  have ac10_a1_0 := fun o => keepa o c10_a1_0
  have ac10_a1_1 := fun o => keepa o c10_a1_1
  have ac10_a2_0 := fun o => keepa o c10_a2_0
  have ac10_a2_1 := fun o => keepa o c10_a2_1
  have ac10_o25_0 := fun o => keepa o c10_o25_0
  have ac10_o25_1 := fun o => keepa o c10_o25_1
  have ac10_o25_2 := fun o => keepa o c10_o25_2
  have ac10_o27_0 := fun o => keepa o c10_o27_0
  have ac10_o27_1 := fun o => keepa o c10_o27_1
  have rP0 := P0.out.below hb'; clear P0; have P0 := Lib.hid rP0; clear rP0
  have rP1 := P1.out.below hb'; clear P1; have P1 := Lib.hid rP1; clear rP1
  have rP2 := P2.out.below hb'; clear P2; have P2 := Lib.hid rP2; clear rP2
  have rFo23 := Fo23.out.below hb'; clear Fo23; have Fo23 := Lib.hid rFo23; clear rFo23
  have rFo25 := Fo25.out.below hb'; clear Fo25; have Fo25 := Lib.hid rFo25; clear rFo25
  have rFo27 := Fo27.out.below hb'; clear Fo27; have Fo27 := Lib.hid rFo27; clear rFo27
  have rB := below_chain B.out (by omega) hb'; clear B; have B := Lib.hid rB; clear rB
  have Fo29 := Lib.hid q10; clear q10
  clear hb hb'
  go_wp2_with fail
  refine (iAbstractClosure_c _ _ _ _ _ _ _ _ _ _ _ _ _ _ _ _ _ (by exact ((Fo25.out.rd).alloc _)) (by exact ((Fo27.out.rdI).alloc _)) (by exact ((Fo29.out.rdI).alloc _)) (by omega) (by omega) (by omega)).mono ?_
  rintro e w11 ⟨A30, n31, c32, its33, rfl, q34, l35, hb⟩
  try simp only [World.size_alloc] at q34
  have hb' : Below w10.heap.size w10 w11 := (by first | (with_reducible exact hb) | (with_reducible exact up1 hb) | (with_reducible exact up2 hb) | (with_reducible exact up3 hb) | (with_reducible exact up4 hb) | (with_reducible exact below_of_drew hb) | (with_reducible exact below_of_drew (up1 hb)))
  have z11 := hb'.size
  have c11_a0_0 : w11.cell? ⟨w.heap.size, 0, none⟩ = some (.int .i64 sy0) := keepc hb' c10_a0_0
  clear c10_a0_0 ac10_a0_0
  have c11_a0_1 : w11.cell? ⟨w.heap.size, 1, none⟩ = some (.int .i64 st0) := keepc hb' c10_a0_1
  clear c10_a0_1 ac10_a0_1
  have c11_a0_2 : w11.cell? ⟨w.heap.size, 2, none⟩ = some (.slice A0 n0 c0) := keepc hb' c10_a0_2
  clear c10_a0_2 ac10_a0_2
  have c11_a1_0 : w11.cell? ⟨(w.heap.size + 1), 0, none⟩ = some (.int .i64 st1) := keepc hb' c10_a1_0
  clear c10_a1_0 ac10_a1_0
  have c11_a1_1 : w11.cell? ⟨(w.heap.size + 1), 1, none⟩ = some (.slice A1 n1 c1) := keepc hb' c10_a1_1
  clear c10_a1_1 ac10_a1_1
  have c11_a2_0 : w11.cell? ⟨(w.heap.size + 1 + 1), 0, none⟩ = some (.int .i64 st2) := keepc hb' c10_a2_0
  clear c10_a2_0 ac10_a2_0
  have c11_a2_1 : w11.cell? ⟨(w.heap.size + 1 + 1), 1, none⟩ = some (.slice A2 n2 c2) := keepc hb' c10_a2_1
  clear c10_a2_1 ac10_a2_1
  have c11_o25_0 : w11.cell? ⟨w8.heap.size, 0, none⟩ = some (.int .i64 sy0) := keepc hb' c10_o25_0
  clear c10_o25_0 ac10_o25_0
  have c11_o25_1 : w11.cell? ⟨w8.heap.size, 1, none⟩ = some (.int .i64 st0) := keepc hb' c10_o25_1
  clear c10_o25_1 ac10_o25_1
  have c11_o25_2 : w11.cell? ⟨w8.heap.size, 2, none⟩ = some (.slice (some ⟨g024, 0, none⟩) n0 n0) := keepc hb' c10_o25_2
  clear c10_o25_2 ac10_o25_2
  have c11_o27_0 : w11.cell? ⟨w9.heap.size, 0, none⟩ = some (.int .i64 st1) := keepc hb' c10_o27_0
  clear c10_o27_0 ac10_o27_0
  have c11_o27_1 : w11.cell? ⟨w9.heap.size, 1, none⟩ = some (.slice (some ⟨g26, 0, none⟩) n1 n1) := keepc hb' c10_o27_1
  clear c10_o27_1 ac10_o27_1
  have c11_o29_0 : w11.cell? ⟨w10.heap.size, 0, none⟩ = some (.int .i64 st2) := keepc hb (by first | (simp; done) | (rw [World.cell?_alloc_past _ _ _ (by simp <;> omega)]; simp; done) | (rw [World.cell?_alloc_past _ _ _ (by simp <;> omega), World.cell?_alloc_past _ _ _ (by simp <;> omega)]; simp; done) | (rw [World.cell?_alloc_past _ _ _ (by simp <;> omega), World.cell?_alloc_past _ _ _ (by simp <;> omega), World.cell?_alloc_past _ _ _ (by simp <;> omega)]; simp; done) | (rw [World.cell?_alloc_at _ _ _ _ (by simp)]; simp; done) | (rw [World.cell?_alloc_past _ _ _ (by simp <;> omega), World.cell?_alloc_at _ _ _ _ (by simp)]; simp; done) | (rw [World.cell?_alloc_past _ _ _ (by simp <;> omega), World.cell?_alloc_past _ _ _ (by simp <;> omega), World.cell?_alloc_at _ _ _ _ (by simp)]; simp; done) | (rw [World.cell?_alloc_past _ _ _ (by simp <;> omega), World.cell?_alloc_past _ _ _ (by simp <;> omega), World.cell?_alloc_past _ _ _ (by simp <;> omega), World.cell?_alloc_at _ _ _ _ (by simp)]; simp; done))
  have hl_c11_o29_0 : w10.heap.size < w11.heap.size := World.block_lt_of_cell? w11 _ c11_o29_0
  have c11_o29_1 : w11.cell? ⟨w10.heap.size, 1, none⟩ = some (.slice (some ⟨g28, 0, none⟩) n2 n2) := keepc hb (by first | (simp; done) | (rw [World.cell?_alloc_past _ _ _ (by simp <;> omega)]; simp; done) | (rw [World.cell?_alloc_past _ _ _ (by simp <;> omega), World.cell?_alloc_past _ _ _ (by simp <;> omega)]; simp; done) | (rw [World.cell?_alloc_past _ _ _ (by simp <;> omega), World.cell?_alloc_past _ _ _ (by simp <;> omega), World.cell?_alloc_past _ _ _ (by simp <;> omega)]; simp; done) | (rw [World.cell?_alloc_at _ _ _ _ (by simp)]; simp; done) | (rw [World.cell?_alloc_past _ _ _ (by simp <;> omega), World.cell?_alloc_at _ _ _ _ (by simp)]; simp; done) | (rw [World.cell?_alloc_past _ _ _ (by simp <;> omega), World.cell?_alloc_past _ _ _ (by simp <;> omega), World.cell?_alloc_at _ _ _ _ (by simp)]; simp; done) | (rw [World.cell?_alloc_past _ _ _ (by simp <;> omega), World.cell?_alloc_past _ _ _ (by simp <;> omega), World.cell?_alloc_past _ _ _ (by simp <;> omega), World.cell?_alloc_at _ _ _ _ (by simp)]; simp; done))
  have ac11_a0_0 := fun o => keepa o c11_a0_0
  have ac11_a0_1 := fun o => keepa o c11_a0_1
  have ac11_a0_2 := fun o => keepa o c11_a0_2
  have ac11_a1_0 := fun o => keepa o c11_a1_0
  have ac11_a1_1 := fun o => keepa o c11_a1_1
  have ac11_a2_0 := fun o => keepa o c11_a2_0
  have ac11_a2_1 := fun o => keepa o c11_a2_1
  have ac11_o25_0 := fun o => keepa o c11_o25_0
  have ac11_o25_1 := fun o => keepa o c11_o25_1
  have ac11_o25_2 := fun o => keepa o c11_o25_2
  have ac11_o27_0 := fun o => keepa o c11_o27_0
  have ac11_o27_1 := fun o => keepa o c11_o27_1
  have ac11_o29_0 := fun o => keepa o c11_o29_0
  have ac11_o29_1 := fun o => keepa o c11_o29_1
  have rP0 := P0.out.below hb'; clear P0; have P0 := Lib.hid rP0; clear rP0
  have rP1 := P1.out.below hb'; clear P1; have P1 := Lib.hid rP1; clear rP1
  have rP2 := P2.out.below hb'; clear P2; have P2 := Lib.hid rP2; clear rP2
  have rFo23 := Fo23.out.below hb'; clear Fo23; have Fo23 := Lib.hid rFo23; clear rFo23
  have rFo25 := Fo25.out.below hb'; clear Fo25; have Fo25 := Lib.hid rFo25; clear rFo25
  have rFo27 := Fo27.out.below hb'; clear Fo27; have Fo27 := Lib.hid rFo27; clear rFo27
  have rFo29 := Fo29.out.below hb'; clear Fo29; have Fo29 := Lib.hid rFo29; clear rFo29
  have rB := below_chain B.out (by omega) hb'; clear B; have B := Lib.hid rB; clear rB
  have Fo36 := Lib.hid q34; clear q34
  obtain ⟨ln_o36, bI0_o36, hs0_o36, bm0_o36⟩ := l35
  have hI0_o36 := (fun t ht => Nat.le_trans (bI0_o36 t ht) (by omega) : ∀ t ∈ its33, t.n ≤ 1000000000); have hm0_o36 := Lib.hid bm0_o36; clear bI0_o36 bm0_o36
  clear hb hb'
  go_wp2_with fail
  refine (eqInt64SS_t _ _ _ _ _ _ _ _ _ (by exact (Fo36.out.rd)) (by exact (Fo23.out.rd)) (by omega) hI0_o36 (hm0_o36.out.trans hm0_o23.out.symm)).mono ?_
  rintro e w12 ⟨rfl, hb⟩
  have hb' : Below w11.heap.size w11 w12 := (by first | (with_reducible exact hb) | (with_reducible exact up1 hb) | (with_reducible exact up2 hb) | (with_reducible exact up3 hb) | (with_reducible exact up4 hb) | (with_reducible exact below_of_drew hb) | (with_reducible exact below_of_drew (up1 hb)))
  have z12 := hb'.size
  have c12_a0_0 : w12.cell? ⟨w.heap.size, 0, none⟩ = some (.int .i64 sy0) := keepc hb' c11_a0_0
  clear c11_a0_0 ac11_a0_0
  have c12_a0_1 : w12.cell? ⟨w.heap.size, 1, none⟩ = some (.int .i64 st0) := keepc hb' c11_a0_1
  clear c11_a0_1 ac11_a0_1
  have c12_a0_2 : w12.cell? ⟨w.heap.size, 2, none⟩ = some (.slice A0 n0 c0) := keepc hb' c11_a0_2
  clear c11_a0_2 ac11_a0_2
  have c12_a1_0 : w12.cell? ⟨(w.heap.size + 1), 0, none⟩ = some (.int .i64 st1) := keepc hb' c11_a1_0
  clear c11_a1_0 ac11_a1_0
  have c12_a1_1 : w12.cell? ⟨(w.heap.size + 1), 1, none⟩ = some (.slice A1 n1 c1) := keepc hb' c11_a1_1
  clear c11_a1_1 ac11_a1_1
  have c12_a2_0 : w12.cell? ⟨(w.heap.size + 1 + 1), 0, none⟩ = some (.int .i64 st2) := keepc hb' c11_a2_0
  clear c11_a2_0 ac11_a2_0
  have c12_a2_1 : w12.cell? ⟨(w.heap.size + 1 + 1), 1, none⟩ = some (.slice A2 n2 c2) := keepc hb' c11_a2_1
  clear c11_a2_1 ac11_a2_1
  have c12_o25_0 : w12.cell? ⟨w8.heap.size, 0, none⟩ = some (.int .i64 sy0) := keepc hb' c11_o25_0
  clear c11_o25_0 ac11_o25_0
  have c12_o25_1 : w12.cell? ⟨w8.heap.size, 1, none⟩ = some (.int .i64 st0) := keepc hb' c11_o25_1
  clear c11_o25_1 ac11_o25_1
  have c12_o25_2 : w12.cell? ⟨w8.heap.size, 2, none⟩ = some (.slice (some ⟨g024, 0, none⟩) n0 n0) := keepc hb' c11_o25_2
  clear c11_o25_2 ac11_o25_2
  have c12_o27_0 : w12.cell? ⟨w9.heap.size, 0, none⟩ = some (.int .i64 st1) := keepc hb' c11_o27_0
  clear c11_o27_0 ac11_o27_0
  have c12_o27_1 : w12.cell? ⟨w9.heap.size, 1, none⟩ = some (.slice (some ⟨g26, 0, none⟩) n1 n1) := keepc hb' c11_o27_1
  clear c11_o27_1 ac11_o27_1
  have c12_o29_0 : w12.cell? ⟨w10.heap.size, 0, none⟩ = some (.int .i64 st2) := keepc hb' c11_o29_0
  clear c11_o29_0 ac11_o29_0
  have c12_o29_1 : w12.cell? ⟨w10.heap.size, 1, none⟩ = some (.slice (some ⟨g28, 0, none⟩) n2 n2) := keepc hb' c11_o29_1
  clear c11_o29_1 ac11_o29_1
  have ac12_a0_0 := fun o => keepa o c12_a0_0
  have ac12_a0_1 := fun o => keepa o c12_a0_1
  have ac12_a0_2 := fun o => keepa o c12_a0_2
  have ac12_a1_0 := fun o => keepa o c12_a1_0
  have ac12_a1_1 := fun o => keepa o c12_a1_1
  have ac12_a2_0 := fun o => keepa o c12_a2_0
  have ac12_a2_1 := fun o => keepa o c12_a2_1
  have ac12_o25_0 := fun o => keepa o c12_o25_0
  have ac12_o25_1 := fun o => keepa o c12_o25_1
  have ac12_o25_2 := fun o => keepa o c12_o25_2
  have ac12_o27_0 := fun o => keepa o c12_o27_0
  have ac12_o27_1 := fun o => keepa o c12_o27_1
  have ac12_o29_0 := fun o => keepa o c12_o29_0
  have ac12_o29_1 := fun o => keepa o c12_o29_1
  have rP0 := P0.out.below hb'; clear P0; have P0 := Lib.hid rP0; clear rP0
  have rP1 := P1.out.below hb'; clear P1; have P1 := Lib.hid rP1; clear rP1
  have rP2 := P2.out.below hb'; clear P2; have P2 := Lib.hid rP2; clear rP2
  have rFo23 := Fo23.out.below hb'; clear Fo23; have Fo23 := Lib.hid rFo23; clear rFo23
  have rFo25 := Fo25.out.below hb'; clear Fo25; have Fo25 := Lib.hid rFo25; clear rFo25
  have rFo27 := Fo27.out.below hb'; clear Fo27; have Fo27 := Lib.hid rFo27; clear rFo27
  have rFo29 := Fo29.out.below hb'; clear Fo29; have Fo29 := Lib.hid rFo29; clear rFo29
  have rFo36 := Fo36.out.below hb'; clear Fo36; have Fo36 := Lib.hid rFo36; clear rFo36
  have rB := below_chain B.out (by omega) hb'; clear B; have B := Lib.hid rB; clear rB
  clear hb hb'
  go_wp2_with fail
  have fx_c12_a0_0 := Ext.cell c12_a0_0
  have fx_c12_a0_1 := Ext.cell c12_a0_1
  have fx_c12_a0_2 := Ext.cell c12_a0_2
  have fx_c12_a1_0 := Ext.cell c12_a1_0
  have fx_c12_a1_1 := Ext.cell c12_a1_1
  have fx_c12_a2_0 := Ext.cell c12_a2_0
  have fx_c12_a2_1 := Ext.cell c12_a2_1
  have fx_c12_o25_0 := Ext.cell c12_o25_0
  have fx_c12_o25_1 := Ext.cell c12_o25_1
  have fx_c12_o25_2 := Ext.cell c12_o25_2
  have fx_c12_o27_0 := Ext.cell c12_o27_0
  have fx_c12_o27_1 := Ext.cell c12_o27_1
  have fx_c12_o29_0 := Ext.cell c12_o29_0
  have fx_c12_o29_1 := Ext.cell c12_o29_1
  refine Mix.wp_region_mix [3, 3, 1, 1, 0] (fun w' => ∃ x : Ext w12, w' = x.w) (by kernel_rfl) (by kernel_rfl) (InExt.drew _) ?_
  repeat (first | (refine Mix.wpMix_read (by rfl) ?_; go_big_quiet_step (fail); refine wpQuiet_nil ?_) | (refine Mix.wpMix_pure (by rfl) ?_; go_big_quiet_step (fail); refine wpQuiet_nil ?_))
  refine Mix.wpMix_chg (by rfl) (fun K hK => ?_)
  go_wp2_with fail
  refine (toMachine_c _ _ _ _ _ _ _ (by exact (P0.out.rd)) (by omega)).mono ?_
  rintro e w13 ⟨g037, rfl, q13, hb⟩
  have hb' : Below w12.heap.size w12 w13 := (by first | (with_reducible exact hb) | (with_reducible exact up1 hb) | (with_reducible exact up2 hb) | (with_reducible exact up3 hb) | (with_reducible exact up4 hb) | (with_reducible exact below_of_drew hb) | (with_reducible exact below_of_drew (up1 hb)))
  have z13 := hb'.size
  have c13_a0_0 : w13.cell? ⟨w.heap.size, 0, none⟩ = some (.int .i64 sy0) := keepc hb' c12_a0_0
  clear c12_a0_0 ac12_a0_0
  have c13_a0_1 : w13.cell? ⟨w.heap.size, 1, none⟩ = some (.int .i64 st0) := keepc hb' c12_a0_1
  clear c12_a0_1 ac12_a0_1
  have c13_a0_2 : w13.cell? ⟨w.heap.size, 2, none⟩ = some (.slice A0 n0 c0) := keepc hb' c12_a0_2
  clear c12_a0_2 ac12_a0_2
  have c13_a1_0 : w13.cell? ⟨(w.heap.size + 1), 0, none⟩ = some (.int .i64 st1) := keepc hb' c12_a1_0
  clear c12_a1_0 ac12_a1_0
  have c13_a1_1 : w13.cell? ⟨(w.heap.size + 1), 1, none⟩ = some (.slice A1 n1 c1) := keepc hb' c12_a1_1
  clear c12_a1_1 ac12_a1_1
  have c13_a2_0 : w13.cell? ⟨(w.heap.size + 1 + 1), 0, none⟩ = some (.int .i64 st2) := keepc hb' c12_a2_0
  clear c12_a2_0 ac12_a2_0
  have c13_a2_1 : w13.cell? ⟨(w.heap.size + 1 + 1), 1, none⟩ = some (.slice A2 n2 c2) := keepc hb' c12_a2_1
  clear c12_a2_1 ac12_a2_1
  have c13_o25_0 : w13.cell? ⟨w8.heap.size, 0, none⟩ = some (.int .i64 sy0) := keepc hb' c12_o25_0
  clear c12_o25_0 ac12_o25_0
  have c13_o25_1 : w13.cell? ⟨w8.heap.size, 1, none⟩ = some (.int .i64 st0) := keepc hb' c12_o25_1
  clear c12_o25_1 ac12_o25_1
  have c13_o25_2 : w13.cell? ⟨w8.heap.size, 2, none⟩ = some (.slice (some ⟨g024, 0, none⟩) n0 n0) := keepc hb' c12_o25_2
  clear c12_o25_2 ac12_o25_2
  have c13_o27_0 : w13.cell? ⟨w9.heap.size, 0, none⟩ = some (.int .i64 st1) := keepc hb' c12_o27_0
  clear c12_o27_0 ac12_o27_0
  have c13_o27_1 : w13.cell? ⟨w9.heap.size, 1, none⟩ = some (.slice (some ⟨g26, 0, none⟩) n1 n1) := keepc hb' c12_o27_1
  clear c12_o27_1 ac12_o27_1
  have c13_o29_0 : w13.cell? ⟨w10.heap.size, 0, none⟩ = some (.int .i64 st2) := keepc hb' c12_o29_0
  clear c12_o29_0 ac12_o29_0
  have c13_o29_1 : w13.cell? ⟨w10.heap.size, 1, none⟩ = some (.slice (some ⟨g28, 0, none⟩) n2 n2) := keepc hb' c12_o29_1
  clear c12_o29_1 ac12_o29_1
  have ac13_a0_0 := fun o => keepa o c13_a0_0
  have ac13_a0_1 := fun o => keepa o c13_a0_1
  have ac13_a0_2 := fun o => keepa o c13_a0_2
  have ac13_a1_0 := fun o => keepa o c13_a1_0
  have ac13_a1_1 := fun o => keepa o c13_a1_1
  have ac13_a2_0 := fun o => keepa o c13_a2_0
  have ac13_a2_1 := fun o => keepa o c13_a2_1
  have ac13_o25_0 := fun o => keepa o c13_o25_0
  have ac13_o25_1 := fun o => keepa o c13_o25_1
  have ac13_o25_2 := fun o => keepa o c13_o25_2
  have ac13_o27_0 := fun o => keepa o c13_o27_0
  have ac13_o27_1 := fun o => keepa o c13_o27_1
  have ac13_o29_0 := fun o => keepa o c13_o29_0
  have ac13_o29_1 := fun o => keepa o c13_o29_1
  have rP0 := P0.out.below hb'; clear P0; have P0 := Lib.hid rP0; clear rP0
  have rP1 := P1.out.below hb'; clear P1; have P1 := Lib.hid rP1; clear rP1
  have rP2 := P2.out.below hb'; clear P2; have P2 := Lib.hid rP2; clear rP2
  have rFo23 := Fo23.out.below hb'; clear Fo23; have Fo23 := Lib.hid rFo23; clear rFo23
  have rFo25 := Fo25.out.below hb'; clear Fo25; have Fo25 := Lib.hid rFo25; clear rFo25
  have rFo27 := Fo27.out.below hb'; clear Fo27; have Fo27 := Lib.hid rFo27; clear rFo27
  have rFo29 := Fo29.out.below hb'; clear Fo29; have Fo29 := Lib.hid rFo29; clear rFo29
  have rFo36 := Fo36.out.below hb'; clear Fo36; have Fo36 := Lib.hid rFo36; clear rFo36
  have rB := below_chain B.out (by omega) hb'; clear B; have B := Lib.hid rB; clear rB
  have Fo38 := Lib.hid q13; clear q13
  have em13 : Below w12.heap.size w12 w13 := hb'
  clear hb hb'
  go_wp2_with fail
  refine hK _ _ ⟨⟨_, em13⟩, rfl⟩ ?_
  clear hK K
  refine Mix.wpMix_chg (by rfl) (fun K hK => ?_)
  go_wp2_with fail
  refine (eqMachine_t _ _ _ _ _ _ _ _ _ _ (by exact (Fo25.out.rd)) (by exact (Fo38.out.rd)) (by omega)).mono ?_
  rintro e w14 ⟨rfl, hb⟩
  have hb' : Below w13.heap.size w13 w14 := (by first | (with_reducible exact hb) | (with_reducible exact up1 hb) | (with_reducible exact up2 hb) | (with_reducible exact up3 hb) | (with_reducible exact up4 hb) | (with_reducible exact below_of_drew hb) | (with_reducible exact below_of_drew (up1 hb)))
  have z14 := hb'.size
  have c14_a0_0 : w14.cell? ⟨w.heap.size, 0, none⟩ = some (.int .i64 sy0) := keepc hb' c13_a0_0
  clear c13_a0_0 ac13_a0_0
  have c14_a0_1 : w14.cell? ⟨w.heap.size, 1, none⟩ = some (.int .i64 st0) := keepc hb' c13_a0_1
  clear c13_a0_1 ac13_a0_1
  have c14_a0_2 : w14.cell? ⟨w.heap.size, 2, none⟩ = some (.slice A0 n0 c0) := keepc hb' c13_a0_2
  clear c13_a0_2 ac13_a0_2
  have c14_a1_0 : w14.cell? ⟨(w.heap.size + 1), 0, none⟩ = some (.int .i64 st1) := keepc hb' c13_a1_0
  clear c13_a1_0 ac13_a1_0
  have c14_a1_1 : w14.cell? ⟨(w.heap.size + 1), 1, none⟩ = some (.slice A1 n1 c1) := keepc hb' c13_a1_1
  clear c13_a1_1 ac13_a1_1
  have c14_a2_0 : w14.cell? ⟨(w.heap.size + 1 + 1), 0, none⟩ = some (.int .i64 st2) := keepc hb' c13_a2_0
  clear c13_a2_0 ac13_a2_0
  have c14_a2_1 : w14.cell? ⟨(w.heap.size + 1 + 1), 1, none⟩ = some (.slice A2 n2 c2) := keepc hb' c13_a2_1
  clear c13_a2_1 ac13_a2_1
  have c14_o25_0 : w14.cell? ⟨w8.heap.size, 0, none⟩ = some (.int .i64 sy0) := keepc hb' c13_o25_0
  clear c13_o25_0 ac13_o25_0
  have c14_o25_1 : w14.cell? ⟨w8.heap.size, 1, none⟩ = some (.int .i64 st0) := keepc hb' c13_o25_1
  clear c13_o25_1 ac13_o25_1
  have c14_o25_2 : w14.cell? ⟨w8.heap.size, 2, none⟩ = some (.slice (some ⟨g024, 0, none⟩) n0 n0) := keepc hb' c13_o25_2
  clear c13_o25_2 ac13_o25_2
  have c14_o27_0 : w14.cell? ⟨w9.heap.size, 0, none⟩ = some (.int .i64 st1) := keepc hb' c13_o27_0
  clear c13_o27_0 ac13_o27_0
  have c14_o27_1 : w14.cell? ⟨w9.heap.size, 1, none⟩ = some (.slice (some ⟨g26, 0, none⟩) n1 n1) := keepc hb' c13_o27_1
  clear c13_o27_1 ac13_o27_1
  have c14_o29_0 : w14.cell? ⟨w10.heap.size, 0, none⟩ = some (.int .i64 st2) := keepc hb' c13_o29_0
  clear c13_o29_0 ac13_o29_0
  have c14_o29_1 : w14.cell? ⟨w10.heap.size, 1, none⟩ = some (.slice (some ⟨g28, 0, none⟩) n2 n2) := keepc hb' c13_o29_1
  clear c13_o29_1 ac13_o29_1
  have ac14_a0_0 := fun o => keepa o c14_a0_0
  have ac14_a0_1 := fun o => keepa o c14_a0_1
  have ac14_a0_2 := fun o => keepa o c14_a0_2
  have ac14_a1_0 := fun o => keepa o c14_a1_0
  have ac14_a1_1 := fun o => keepa o c14_a1_1
  have ac14_a2_0 := fun o => keepa o c14_a2_0
  have ac14_a2_1 := fun o => keepa o c14_a2_1
  have ac14_o25_0 := fun o => keepa o c14_o25_0
  have ac14_o25_1 := fun o => keepa o c14_o25_1
  have ac14_o25_2 := fun o => keepa o c14_o25_2
  have ac14_o27_0 := fun o => keepa o c14_o27_0
  have ac14_o27_1 := fun o => keepa o c14_o27_1
  have ac14_o29_0 := fun o => keepa o c14_o29_0
  have ac14_o29_1 := fun o => keepa o c14_o29_1
  have rP0 := P0.out.below hb'; clear P0; have P0 := Lib.hid rP0; clear rP0
  have rP1 := P1.out.below hb'; clear P1; have P1 := Lib.hid rP1; clear rP1
  have rP2 := P2.out.below hb'; clear P2; have P2 := Lib.hid rP2; clear rP2
  have rFo23 := Fo23.out.below hb'; clear Fo23; have Fo23 := Lib.hid rFo23; clear rFo23
  have rFo25 := Fo25.out.below hb'; clear Fo25; have Fo25 := Lib.hid rFo25; clear rFo25
  have rFo27 := Fo27.out.below hb'; clear Fo27; have Fo27 := Lib.hid rFo27; clear rFo27
  have rFo29 := Fo29.out.below hb'; clear Fo29; have Fo29 := Lib.hid rFo29; clear rFo29
  have rFo36 := Fo36.out.below hb'; clear Fo36; have Fo36 := Lib.hid rFo36; clear rFo36
  have rFo38 := Fo38.out.below hb'; clear Fo38; have Fo38 := Lib.hid rFo38; clear rFo38
  have rB := below_chain B.out (by omega) hb'; clear B; have B := Lib.hid rB; clear rB
  have em14 : Below w12.heap.size w12 w14 := below_chain em13 (by omega) hb'
  clear hb hb'
  go_wp2_with fail
  refine hK _ _ ⟨⟨_, em14⟩, rfl⟩ ?_
  clear hK K
  repeat (first | (refine Mix.wpMix_read (by rfl) ?_; go_big_quiet_step (fail); refine wpQuiet_nil ?_) | (refine Mix.wpMix_pure (by rfl) ?_; go_big_quiet_step (fail); refine wpQuiet_nil ?_))
  (refine Mix.wpMix_nil ?_; try simp only [Exit.then])
  clear fx_c12_a0_0
  clear fx_c12_a0_1
  clear fx_c12_a0_2
  clear fx_c12_a1_0
  clear fx_c12_a1_1
  clear fx_c12_a2_0
  clear fx_c12_a2_1
  clear fx_c12_o25_0
  clear fx_c12_o25_1
  clear fx_c12_o25_2
  clear fx_c12_o27_0
  clear fx_c12_o27_1
  clear fx_c12_o29_0
  clear fx_c12_o29_1
  clear Fo38
  go_wp2_with fail
  have fx_c14_a0_0 := Ext.cell c14_a0_0
  have fx_c14_a0_1 := Ext.cell c14_a0_1
  have fx_c14_a0_2 := Ext.cell c14_a0_2
  have fx_c14_a1_0 := Ext.cell c14_a1_0
  have fx_c14_a1_1 := Ext.cell c14_a1_1
  have fx_c14_a2_0 := Ext.cell c14_a2_0
  have fx_c14_a2_1 := Ext.cell c14_a2_1
  have fx_c14_o25_0 := Ext.cell c14_o25_0
  have fx_c14_o25_1 := Ext.cell c14_o25_1
  have fx_c14_o25_2 := Ext.cell c14_o25_2
  have fx_c14_o27_0 := Ext.cell c14_o27_0
  have fx_c14_o27_1 := Ext.cell c14_o27_1
  have fx_c14_o29_0 := Ext.cell c14_o29_0
  have fx_c14_o29_1 := Ext.cell c14_o29_1
  refine Mix.wp_region_mix [3, 3, 1, 1, 0] (fun w' => ∃ x : Ext w14, w' = x.w) (by kernel_rfl) (by kernel_rfl) (InExt.drew _) ?_
  repeat (first | (refine Mix.wpMix_read (by rfl) ?_; go_big_quiet_step (fail); refine wpQuiet_nil ?_) | (refine Mix.wpMix_pure (by rfl) ?_; go_big_quiet_step (fail); refine wpQuiet_nil ?_))
  refine Mix.wpMix_chg (by rfl) (fun K hK => ?_)
  go_wp2_with fail
  refine (toDfa_c _ _ _ _ _ _ (by exact (P1.out.1)) (by omega)).mono ?_
  rintro e w15 ⟨g39, rfl, q15, hb⟩
  have hb' : Below w14.heap.size w14 w15 := (by first | (with_reducible exact hb) | (with_reducible exact up1 hb) | (with_reducible exact up2 hb) | (with_reducible exact up3 hb) | (with_reducible exact up4 hb) | (with_reducible exact below_of_drew hb) | (with_reducible exact below_of_drew (up1 hb)))
  have z15 := hb'.size
  have c15_a0_0 : w15.cell? ⟨w.heap.size, 0, none⟩ = some (.int .i64 sy0) := keepc hb' c14_a0_0
  clear c14_a0_0 ac14_a0_0
  have c15_a0_1 : w15.cell? ⟨w.heap.size, 1, none⟩ = some (.int .i64 st0) := keepc hb' c14_a0_1
  clear c14_a0_1 ac14_a0_1
  have c15_a0_2 : w15.cell? ⟨w.heap.size, 2, none⟩ = some (.slice A0 n0 c0) := keepc hb' c14_a0_2
  clear c14_a0_2 ac14_a0_2
  have c15_a1_0 : w15.cell? ⟨(w.heap.size + 1), 0, none⟩ = some (.int .i64 st1) := keepc hb' c14_a1_0
  clear c14_a1_0 ac14_a1_0
  have c15_a1_1 : w15.cell? ⟨(w.heap.size + 1), 1, none⟩ = some (.slice A1 n1 c1) := keepc hb' c14_a1_1
  clear c14_a1_1 ac14_a1_1
  have c15_a2_0 : w15.cell? ⟨(w.heap.size + 1 + 1), 0, none⟩ = some (.int .i64 st2) := keepc hb' c14_a2_0
  clear c14_a2_0 ac14_a2_0
  have c15_a2_1 : w15.cell? ⟨(w.heap.size + 1 + 1), 1, none⟩ = some (.slice A2 n2 c2) := keepc hb' c14_a2_1
  clear c14_a2_1 ac14_a2_1
  have c15_o25_0 : w15.cell? ⟨w8.heap.size, 0, none⟩ = some (.int .i64 sy0) := keepc hb' c14_o25_0
  clear c14_o25_0 ac14_o25_0
  have c15_o25_1 : w15.cell? ⟨w8.heap.size, 1, none⟩ = some (.int .i64 st0) := keepc hb' c14_o25_1
  clear c14_o25_1 ac14_o25_1
  have c15_o25_2 : w15.cell? ⟨w8.heap.size, 2, none⟩ = some (.slice (some ⟨g024, 0, none⟩) n0 n0) := keepc hb' c14_o25_2
  clear c14_o25_2 ac14_o25_2
  have c15_o27_0 : w15.cell? ⟨w9.heap.size, 0, none⟩ = some (.int .i64 st1) := keepc hb' c14_o27_0
  clear c14_o27_0 ac14_o27_0
  have c15_o27_1 : w15.cell? ⟨w9.heap.size, 1, none⟩ = some (.slice (some ⟨g26, 0, none⟩) n1 n1) := keepc hb' c14_o27_1
  clear c14_o27_1 ac14_o27_1
  have c15_o29_0 : w15.cell? ⟨w10.heap.size, 0, none⟩ = some (.int .i64 st2) := keepc hb' c14_o29_0
  clear c14_o29_0 ac14_o29_0
  have c15_o29_1 : w15.cell? ⟨w10.heap.size, 1, none⟩ = some (.slice (some ⟨g28, 0, none⟩) n2 n2) := keepc hb' c14_o29_1
  clear c14_o29_1 ac14_o29_1
  have ac15_a0_0 := fun o => keepa o c15_a0_0
  have ac15_a0_1 := fun o => keepa o c15_a0_1
  have ac15_a0_2 := fun o => keepa o c15_a0_2
  have ac15_a1_0 := fun o => keepa o c15_a1_0
  have ac15_a1_1 := fun o => keepa o c15_a1_1
  have ac15_a2_0 := fun o => keepa o c15_a2_0
  have ac15_a2_1 := fun o => keepa o c15_a2_1
  have ac15_o25_0 := fun o => keepa o c15_o25_0
  have ac15_o25_1 := fun o => keepa o c15_o25_1
  have ac15_o25_2 := fun o => keepa o c15_o25_2
  have ac15_o27_0 := fun o => keepa o c15_o27_0
  have ac15_o27_1 := fun o => keepa o c15_o27_1
  have ac15_o29_0 := fun o => keepa o c15_o29_0
  have ac15_o29_1 := fun o => keepa o c15_o29_1
  have rP0 := P0.out.below hb'; clear P0; have P0 := Lib.hid rP0; clear rP0
  have rP1 := P1.out.below hb'; clear P1; have P1 := Lib.hid rP1; clear rP1
  have rP2 := P2.out.below hb'; clear P2; have P2 := Lib.hid rP2; clear rP2
  have rFo23 := Fo23.out.below hb'; clear Fo23; have Fo23 := Lib.hid rFo23; clear rFo23
  have rFo25 := Fo25.out.below hb'; clear Fo25; have Fo25 := Lib.hid rFo25; clear rFo25
  have rFo27 := Fo27.out.below hb'; clear Fo27; have Fo27 := Lib.hid rFo27; clear rFo27
  have rFo29 := Fo29.out.below hb'; clear Fo29; have Fo29 := Lib.hid rFo29; clear rFo29
  have rFo36 := Fo36.out.below hb'; clear Fo36; have Fo36 := Lib.hid rFo36; clear rFo36
  have rB := below_chain B.out (by omega) hb'; clear B; have B := Lib.hid rB; clear rB
  have Fo40 := Lib.hid q15; clear q15
  have em15 : Below w14.heap.size w14 w15 := hb'
  clear hb hb'
  go_wp2_with fail
  refine hK _ _ ⟨⟨_, em15⟩, rfl⟩ ?_
  clear hK K
  refine Mix.wpMix_chg (by rfl) (fun K hK => ?_)
  go_wp2_with fail
  refine (eqDfa_t _ _ _ _ _ _ _ _ _ (by exact (Fo27.out.rdI)) (by exact (Fo40.out.rdI)) (by omega)).mono ?_
  rintro e w16 ⟨rfl, hb⟩
  have hb' : Below w15.heap.size w15 w16 := (by first | (with_reducible exact hb) | (with_reducible exact up1 hb) | (with_reducible exact up2 hb) | (with_reducible exact up3 hb) | (with_reducible exact up4 hb) | (with_reducible exact below_of_drew hb) | (with_reducible exact below_of_drew (up1 hb)))
  have z16 := hb'.size
  have c16_a0_0 : w16.cell? ⟨w.heap.size, 0, none⟩ = some (.int .i64 sy0) := keepc hb' c15_a0_0
  clear c15_a0_0 ac15_a0_0
  have c16_a0_1 : w16.cell? ⟨w.heap.size, 1, none⟩ = some (.int .i64 st0) := keepc hb' c15_a0_1
  clear c15_a0_1 ac15_a0_1
  have c16_a0_2 : w16.cell? ⟨w.heap.size, 2, none⟩ = some (.slice A0 n0 c0) := keepc hb' c15_a0_2
  clear c15_a0_2 ac15_a0_2
  have c16_a1_0 : w16.cell? ⟨(w.heap.size + 1), 0, none⟩ = some (.int .i64 st1) := keepc hb' c15_a1_0
  clear c15_a1_0 ac15_a1_0
  have c16_a1_1 : w16.cell? ⟨(w.heap.size + 1), 1, none⟩ = some (.slice A1 n1 c1) := keepc hb' c15_a1_1
  clear c15_a1_1 ac15_a1_1
  have c16_a2_0 : w16.cell? ⟨(w.heap.size + 1 + 1), 0, none⟩ = some (.int .i64 st2) := keepc hb' c15_a2_0
  clear c15_a2_0 ac15_a2_0
  have c16_a2_1 : w16.cell? ⟨(w.heap.size + 1 + 1), 1, none⟩ = some (.slice A2 n2 c2) := keepc hb' c15_a2_1
  clear c15_a2_1 ac15_a2_1
  have c16_o25_0 : w16.cell? ⟨w8.heap.size, 0, none⟩ = some (.int .i64 sy0) := keepc hb' c15_o25_0
  clear c15_o25_0 ac15_o25_0
  have c16_o25_1 : w16.cell? ⟨w8.heap.size, 1, none⟩ = some (.int .i64 st0) := keepc hb' c15_o25_1
  clear c15_o25_1 ac15_o25_1
  have c16_o25_2 : w16.cell? ⟨w8.heap.size, 2, none⟩ = some (.slice (some ⟨g024, 0, none⟩) n0 n0) := keepc hb' c15_o25_2
  clear c15_o25_2 ac15_o25_2
  have c16_o27_0 : w16.cell? ⟨w9.heap.size, 0, none⟩ = some (.int .i64 st1) := keepc hb' c15_o27_0
  clear c15_o27_0 ac15_o27_0
  have c16_o27_1 : w16.cell? ⟨w9.heap.size, 1, none⟩ = some (.slice (some ⟨g26, 0, none⟩) n1 n1) := keepc hb' c15_o27_1
  clear c15_o27_1 ac15_o27_1
  have c16_o29_0 : w16.cell? ⟨w10.heap.size, 0, none⟩ = some (.int .i64 st2) := keepc hb' c15_o29_0
  clear c15_o29_0 ac15_o29_0
  have c16_o29_1 : w16.cell? ⟨w10.heap.size, 1, none⟩ = some (.slice (some ⟨g28, 0, none⟩) n2 n2) := keepc hb' c15_o29_1
  clear c15_o29_1 ac15_o29_1
  have ac16_a0_0 := fun o => keepa o c16_a0_0
  have ac16_a0_1 := fun o => keepa o c16_a0_1
  have ac16_a0_2 := fun o => keepa o c16_a0_2
  have ac16_a1_0 := fun o => keepa o c16_a1_0
  have ac16_a1_1 := fun o => keepa o c16_a1_1
  have ac16_a2_0 := fun o => keepa o c16_a2_0
  have ac16_a2_1 := fun o => keepa o c16_a2_1
  have ac16_o25_0 := fun o => keepa o c16_o25_0
  have ac16_o25_1 := fun o => keepa o c16_o25_1
  have ac16_o25_2 := fun o => keepa o c16_o25_2
  have ac16_o27_0 := fun o => keepa o c16_o27_0
  have ac16_o27_1 := fun o => keepa o c16_o27_1
  have ac16_o29_0 := fun o => keepa o c16_o29_0
  have ac16_o29_1 := fun o => keepa o c16_o29_1
  have rP0 := P0.out.below hb'; clear P0; have P0 := Lib.hid rP0; clear rP0
  have rP1 := P1.out.below hb'; clear P1; have P1 := Lib.hid rP1; clear rP1
  have rP2 := P2.out.below hb'; clear P2; have P2 := Lib.hid rP2; clear rP2
  have rFo23 := Fo23.out.below hb'; clear Fo23; have Fo23 := Lib.hid rFo23; clear rFo23
  have rFo25 := Fo25.out.below hb'; clear Fo25; have Fo25 := Lib.hid rFo25; clear rFo25
  have rFo27 := Fo27.out.below hb'; clear Fo27; have Fo27 := Lib.hid rFo27; clear rFo27
  have rFo29 := Fo29.out.below hb'; clear Fo29; have Fo29 := Lib.hid rFo29; clear rFo29
  have rFo36 := Fo36.out.below hb'; clear Fo36; have Fo36 := Lib.hid rFo36; clear rFo36
  have rFo40 := Fo40.out.below hb'; clear Fo40; have Fo40 := Lib.hid rFo40; clear rFo40
  have rB := below_chain B.out (by omega) hb'; clear B; have B := Lib.hid rB; clear rB
  have em16 : Below w14.heap.size w14 w16 := below_chain em15 (by omega) hb'
  clear hb hb'
  go_wp2_with fail
  refine hK _ _ ⟨⟨_, em16⟩, rfl⟩ ?_
  clear hK K
  repeat (first | (refine Mix.wpMix_read (by rfl) ?_; go_big_quiet_step (fail); refine wpQuiet_nil ?_) | (refine Mix.wpMix_pure (by rfl) ?_; go_big_quiet_step (fail); refine wpQuiet_nil ?_))
  (refine Mix.wpMix_nil ?_; try simp only [Exit.then])
  clear fx_c14_a0_0
  clear fx_c14_a0_1
  clear fx_c14_a0_2
  clear fx_c14_a1_0
  clear fx_c14_a1_1
  clear fx_c14_a2_0
  clear fx_c14_a2_1
  clear fx_c14_o25_0
  clear fx_c14_o25_1
  clear fx_c14_o25_2
  clear fx_c14_o27_0
  clear fx_c14_o27_1
  clear fx_c14_o29_0
  clear fx_c14_o29_1
  clear Fo40
  go_wp2_with fail
  have fx_c16_a0_0 := Ext.cell c16_a0_0
  have fx_c16_a0_1 := Ext.cell c16_a0_1
  have fx_c16_a0_2 := Ext.cell c16_a0_2
  have fx_c16_a1_0 := Ext.cell c16_a1_0
  have fx_c16_a1_1 := Ext.cell c16_a1_1
  have fx_c16_a2_0 := Ext.cell c16_a2_0
  have fx_c16_a2_1 := Ext.cell c16_a2_1
  have fx_c16_o25_0 := Ext.cell c16_o25_0
  have fx_c16_o25_1 := Ext.cell c16_o25_1
  have fx_c16_o25_2 := Ext.cell c16_o25_2
  have fx_c16_o27_0 := Ext.cell c16_o27_0
  have fx_c16_o27_1 := Ext.cell c16_o27_1
  have fx_c16_o29_0 := Ext.cell c16_o29_0
  have fx_c16_o29_1 := Ext.cell c16_o29_1
  refine Mix.wp_region_mix [3, 3, 1, 1, 0] (fun w' => ∃ x : Ext w16, w' = x.w) (by kernel_rfl) (by kernel_rfl) (InExt.drew _) ?_
  repeat (first | (refine Mix.wpMix_read (by rfl) ?_; go_big_quiet_step (fail); refine wpQuiet_nil ?_) | (refine Mix.wpMix_pure (by rfl) ?_; go_big_quiet_step (fail); refine wpQuiet_nil ?_))
  refine Mix.wpMix_chg (by rfl) (fun K hK => ?_)
  go_wp2_with fail
  refine (toDfa_c _ _ _ _ _ _ (by exact (P2.out.1)) (by omega)).mono ?_
  rintro e w17 ⟨g41, rfl, q17, hb⟩
  have hb' : Below w16.heap.size w16 w17 := (by first | (with_reducible exact hb) | (with_reducible exact up1 hb) | (with_reducible exact up2 hb) | (with_reducible exact up3 hb) | (with_reducible exact up4 hb) | (with_reducible exact below_of_drew hb) | (with_reducible exact below_of_drew (up1 hb)))
  have z17 := hb'.size
  have c17_a0_0 : w17.cell? ⟨w.heap.size, 0, none⟩ = some (.int .i64 sy0) := keepc hb' c16_a0_0
  clear c16_a0_0 ac16_a0_0
  have c17_a0_1 : w17.cell? ⟨w.heap.size, 1, none⟩ = some (.int .i64 st0) := keepc hb' c16_a0_1
  clear c16_a0_1 ac16_a0_1
  have c17_a0_2 : w17.cell? ⟨w.heap.size, 2, none⟩ = some (.slice A0 n0 c0) := keepc hb' c16_a0_2
  clear c16_a0_2 ac16_a0_2
  have c17_a1_0 : w17.cell? ⟨(w.heap.size + 1), 0, none⟩ = some (.int .i64 st1) := keepc hb' c16_a1_0
  clear c16_a1_0 ac16_a1_0
  have c17_a1_1 : w17.cell? ⟨(w.heap.size + 1), 1, none⟩ = some (.slice A1 n1 c1) := keepc hb' c16_a1_1
  clear c16_a1_1 ac16_a1_1
  have c17_a2_0 : w17.cell? ⟨(w.heap.size + 1 + 1), 0, none⟩ = some (.int .i64 st2) := keepc hb' c16_a2_0
  clear c16_a2_0 ac16_a2_0
  have c17_a2_1 : w17.cell? ⟨(w.heap.size + 1 + 1), 1, none⟩ = some (.slice A2 n2 c2) := keepc hb' c16_a2_1
  clear c16_a2_1 ac16_a2_1
  have c17_o25_0 : w17.cell? ⟨w8.heap.size, 0, none⟩ = some (.int .i64 sy0) := keepc hb' c16_o25_0
  clear c16_o25_0 ac16_o25_0
  have c17_o25_1 : w17.cell? ⟨w8.heap.size, 1, none⟩ = some (.int .i64 st0) := keepc hb' c16_o25_1
  clear c16_o25_1 ac16_o25_1
  have c17_o25_2 : w17.cell? ⟨w8.heap.size, 2, none⟩ = some (.slice (some ⟨g024, 0, none⟩) n0 n0) := keepc hb' c16_o25_2
  clear c16_o25_2 ac16_o25_2
  have c17_o27_0 : w17.cell? ⟨w9.heap.size, 0, none⟩ = some (.int .i64 st1) := keepc hb' c16_o27_0
  clear c16_o27_0 ac16_o27_0
  have c17_o27_1 : w17.cell? ⟨w9.heap.size, 1, none⟩ = some (.slice (some ⟨g26, 0, none⟩) n1 n1) := keepc hb' c16_o27_1
  clear c16_o27_1 ac16_o27_1
  have c17_o29_0 : w17.cell? ⟨w10.heap.size, 0, none⟩ = some (.int .i64 st2) := keepc hb' c16_o29_0
  clear c16_o29_0 ac16_o29_0
  have c17_o29_1 : w17.cell? ⟨w10.heap.size, 1, none⟩ = some (.slice (some ⟨g28, 0, none⟩) n2 n2) := keepc hb' c16_o29_1
  clear c16_o29_1 ac16_o29_1
  have ac17_a0_0 := fun o => keepa o c17_a0_0
  have ac17_a0_1 := fun o => keepa o c17_a0_1
  have ac17_a0_2 := fun o => keepa o c17_a0_2
  have ac17_a1_0 := fun o => keepa o c17_a1_0
  have ac17_a1_1 := fun o => keepa o c17_a1_1
  have ac17_a2_0 := fun o => keepa o c17_a2_0
  have ac17_a2_1 := fun o => keepa o c17_a2_1
  have ac17_o25_0 := fun o => keepa o c17_o25_0
  have ac17_o25_1 := fun o => keepa o c17_o25_1
  have ac17_o25_2 := fun o => keepa o c17_o25_2
  have ac17_o27_0 := fun o => keepa o c17_o27_0
  have ac17_o27_1 := fun o => keepa o c17_o27_1
  have ac17_o29_0 := fun o => keepa o c17_o29_0
  have ac17_o29_1 := fun o => keepa o c17_o29_1
  have rP0 := P0.out.below hb'; clear P0; have P0 := Lib.hid rP0; clear rP0
  have rP1 := P1.out.below hb'; clear P1; have P1 := Lib.hid rP1; clear rP1
  have rP2 := P2.out.below hb'; clear P2; have P2 := Lib.hid rP2; clear rP2
  have rFo23 := Fo23.out.below hb'; clear Fo23; have Fo23 := Lib.hid rFo23; clear rFo23
  have rFo25 := Fo25.out.below hb'; clear Fo25; have Fo25 := Lib.hid rFo25; clear rFo25
  have rFo27 := Fo27.out.below hb'; clear Fo27; have Fo27 := Lib.hid rFo27; clear rFo27
  have rFo29 := Fo29.out.below hb'; clear Fo29; have Fo29 := Lib.hid rFo29; clear rFo29
  have rFo36 := Fo36.out.below hb'; clear Fo36; have Fo36 := Lib.hid rFo36; clear rFo36
  have rB := below_chain B.out (by omega) hb'; clear B; have B := Lib.hid rB; clear rB
  have Fo42 := Lib.hid q17; clear q17
  have em17 : Below w16.heap.size w16 w17 := hb'
  clear hb hb'
  go_wp2_with fail
  refine hK _ _ ⟨⟨_, em17⟩, rfl⟩ ?_
  clear hK K
  refine Mix.wpMix_chg (by rfl) (fun K hK => ?_)
  go_wp2_with fail
  refine (eqDfa_t _ _ _ _ _ _ _ _ _ (by exact (Fo29.out.rdI)) (by exact (Fo42.out.rdI)) (by omega)).mono ?_
  rintro e w18 ⟨rfl, hb⟩
  have hb' : Below w17.heap.size w17 w18 := (by first | (with_reducible exact hb) | (with_reducible exact up1 hb) | (with_reducible exact up2 hb) | (with_reducible exact up3 hb) | (with_reducible exact up4 hb) | (with_reducible exact below_of_drew hb) | (with_reducible exact below_of_drew (up1 hb)))
  have z18 := hb'.size
  have c18_a0_0 : w18.cell? ⟨w.heap.size, 0, none⟩ = some (.int .i64 sy0) := keepc hb' c17_a0_0
  clear c17_a0_0 ac17_a0_0
  have c18_a0_1 : w18.cell? ⟨w.heap.size, 1, none⟩ = some (.int .i64 st0) := keepc hb' c17_a0_1
  clear c17_a0_1 ac17_a0_1
  have c18_a0_2 : w18.cell? ⟨w.heap.size, 2, none⟩ = some (.slice A0 n0 c0) := keepc hb' c17_a0_2
  clear c17_a0_2 ac17_a0_2
  have c18_a1_0 : w18.cell? ⟨(w.heap.size + 1), 0, none⟩ = some (.int .i64 st1) := keepc hb' c17_a1_0
  clear c17_a1_0 ac17_a1_0
  have c18_a1_1 : w18.cell? ⟨(w.heap.size + 1), 1, none⟩ = some (.slice A1 n1 c1) := keepc hb' c17_a1_1
  clear c17_a1_1 ac17_a1_1
  have c18_a2_0 : w18.cell? ⟨(w.heap.size + 1 + 1), 0, none⟩ = some (.int .i64 st2) := keepc hb' c17_a2_0
  clear c17_a2_0 ac17_a2_0
  have c18_a2_1 : w18.cell? ⟨(w.heap.size + 1 + 1), 1, none⟩ = some (.slice A2 n2 c2) := keepc hb' c17_a2_1
  clear c17_a2_1 ac17_a2_1
  have c18_o25_0 : w18.cell? ⟨w8.heap.size, 0, none⟩ = some (.int .i64 sy0) := keepc hb' c17_o25_0
  clear c17_o25_0 ac17_o25_0
  have c18_o25_1 : w18.cell? ⟨w8.heap.size, 1, none⟩ = some (.int .i64 st0) := keepc hb' c17_o25_1
  clear c17_o25_1 ac17_o25_1
  have c18_o25_2 : w18.cell? ⟨w8.heap.size, 2, none⟩ = some (.slice (some ⟨g024, 0, none⟩) n0 n0) := keepc hb' c17_o25_2
  clear c17_o25_2 ac17_o25_2
  have c18_o27_0 : w18.cell? ⟨w9.heap.size, 0, none⟩ = some (.int .i64 st1) := keepc hb' c17_o27_0
  clear c17_o27_0 ac17_o27_0
  have c18_o27_1 : w18.cell? ⟨w9.heap.size, 1, none⟩ = some (.slice (some ⟨g26, 0, none⟩) n1 n1) := keepc hb' c17_o27_1
  clear c17_o27_1 ac17_o27_1
  have c18_o29_0 : w18.cell? ⟨w10.heap.size, 0, none⟩ = some (.int .i64 st2) := keepc hb' c17_o29_0
  clear c17_o29_0 ac17_o29_0
  have c18_o29_1 : w18.cell? ⟨w10.heap.size, 1, none⟩ = some (.slice (some ⟨g28, 0, none⟩) n2 n2) := keepc hb' c17_o29_1
  clear c17_o29_1 ac17_o29_1
  have ac18_a0_0 := fun o => keepa o c18_a0_0
  have ac18_a0_1 := fun o => keepa o c18_a0_1
  have ac18_a0_2 := fun o => keepa o c18_a0_2
  have ac18_a1_0 := fun o => keepa o c18_a1_0
  have ac18_a1_1 := fun o => keepa o c18_a1_1
  have ac18_a2_0 := fun o => keepa o c18_a2_0
  have ac18_a2_1 := fun o => keepa o c18_a2_1
  have ac18_o25_0 := fun o => keepa o c18_o25_0
  have ac18_o25_1 := fun o => keepa o c18_o25_1
  have ac18_o25_2 := fun o => keepa o c18_o25_2
  have ac18_o27_0 := fun o => keepa o c18_o27_0
  have ac18_o27_1 := fun o => keepa o c18_o27_1
  have ac18_o29_0 := fun o => keepa o c18_o29_0
  have ac18_o29_1 := fun o => keepa o c18_o29_1
  have rP0 := P0.out.below hb'; clear P0; have P0 := Lib.hid rP0; clear rP0
  have rP1 := P1.out.below hb'; clear P1; have P1 := Lib.hid rP1; clear rP1
  have rP2 := P2.out.below hb'; clear P2; have P2 := Lib.hid rP2; clear rP2
  have rFo23 := Fo23.out.below hb'; clear Fo23; have Fo23 := Lib.hid rFo23; clear rFo23
  have rFo25 := Fo25.out.below hb'; clear Fo25; have Fo25 := Lib.hid rFo25; clear rFo25
  have rFo27 := Fo27.out.below hb'; clear Fo27; have Fo27 := Lib.hid rFo27; clear rFo27
  have rFo29 := Fo29.out.below hb'; clear Fo29; have Fo29 := Lib.hid rFo29; clear rFo29
  have rFo36 := Fo36.out.below hb'; clear Fo36; have Fo36 := Lib.hid rFo36; clear rFo36
  have rFo42 := Fo42.out.below hb'; clear Fo42; have Fo42 := Lib.hid rFo42; clear rFo42
  have rB := below_chain B.out (by omega) hb'; clear B; have B := Lib.hid rB; clear rB
  have em18 : Below w16.heap.size w16 w18 := below_chain em17 (by omega) hb'
  clear hb hb'
  go_wp2_with fail
  refine hK _ _ ⟨⟨_, em18⟩, rfl⟩ ?_
  clear hK K
  repeat (first | (refine Mix.wpMix_read (by rfl) ?_; go_big_quiet_step (fail); refine wpQuiet_nil ?_) | (refine Mix.wpMix_pure (by rfl) ?_; go_big_quiet_step (fail); refine wpQuiet_nil ?_))
  (refine Mix.wpMix_nil ?_; try simp only [Exit.then])
  clear fx_c16_a0_0
  clear fx_c16_a0_1
  clear fx_c16_a0_2
  clear fx_c16_a1_0
  clear fx_c16_a1_1
  clear fx_c16_a2_0
  clear fx_c16_a2_1
  clear fx_c16_o25_0
  clear fx_c16_o25_1
  clear fx_c16_o25_2
  clear fx_c16_o27_0
  clear fx_c16_o27_1
  clear fx_c16_o29_0
  clear fx_c16_o29_1
  clear Fo42
  go_wp2_with fail
  refine (markMachine_c _ _ _ _ _ _ _ _ _ _ (by exact (Fo25.out)) (by omega) (by omega) (by omega)).mono ?_
  rintro e w19 ⟨rfl, q19, hk⟩
  have hk' : KeepR w7.heap.size w8.heap.size w18 w19 := (by first | (with_reducible exact hk) | (with_reducible exact hk.up1) | (with_reducible exact hk.up1.up1))
  have z19 := hk'.size
  have c19_a0_0 : w19.cell? ⟨w.heap.size, 0, none⟩ = some (.int .i64 sy0) := hk'.cell (by simp <;> omega) c18_a0_0
  clear c18_a0_0 ac18_a0_0
  have c19_a0_1 : w19.cell? ⟨w.heap.size, 1, none⟩ = some (.int .i64 st0) := hk'.cell (by simp <;> omega) c18_a0_1
  clear c18_a0_1 ac18_a0_1
  have c19_a0_2 : w19.cell? ⟨w.heap.size, 2, none⟩ = some (.slice A0 n0 c0) := hk'.cell (by simp <;> omega) c18_a0_2
  clear c18_a0_2 ac18_a0_2
  have c19_a1_0 : w19.cell? ⟨(w.heap.size + 1), 0, none⟩ = some (.int .i64 st1) := hk'.cell (by simp <;> omega) c18_a1_0
  clear c18_a1_0 ac18_a1_0
  have c19_a1_1 : w19.cell? ⟨(w.heap.size + 1), 1, none⟩ = some (.slice A1 n1 c1) := hk'.cell (by simp <;> omega) c18_a1_1
  clear c18_a1_1 ac18_a1_1
  have c19_a2_0 : w19.cell? ⟨(w.heap.size + 1 + 1), 0, none⟩ = some (.int .i64 st2) := hk'.cell (by simp <;> omega) c18_a2_0
  clear c18_a2_0 ac18_a2_0
  have c19_a2_1 : w19.cell? ⟨(w.heap.size + 1 + 1), 1, none⟩ = some (.slice A2 n2 c2) := hk'.cell (by simp <;> omega) c18_a2_1
  clear c18_a2_1 ac18_a2_1
  have c19_o25_0 : w19.cell? ⟨w8.heap.size, 0, none⟩ = some (.int .i64 sy0) := hk'.cell (by simp <;> omega) c18_o25_0
  clear c18_o25_0 ac18_o25_0
  have c19_o25_1 : w19.cell? ⟨w8.heap.size, 1, none⟩ = some (.int .i64 st0) := hk'.cell (by simp <;> omega) c18_o25_1
  clear c18_o25_1 ac18_o25_1
  have c19_o25_2 : w19.cell? ⟨w8.heap.size, 2, none⟩ = some (.slice (some ⟨g024, 0, none⟩) n0 n0) := hk'.cell (by simp <;> omega) c18_o25_2
  clear c18_o25_2 ac18_o25_2
  have c19_o27_0 : w19.cell? ⟨w9.heap.size, 0, none⟩ = some (.int .i64 st1) := hk'.cell (by simp <;> omega) c18_o27_0
  clear c18_o27_0 ac18_o27_0
  have c19_o27_1 : w19.cell? ⟨w9.heap.size, 1, none⟩ = some (.slice (some ⟨g26, 0, none⟩) n1 n1) := hk'.cell (by simp <;> omega) c18_o27_1
  clear c18_o27_1 ac18_o27_1
  have c19_o29_0 : w19.cell? ⟨w10.heap.size, 0, none⟩ = some (.int .i64 st2) := hk'.cell (by simp <;> omega) c18_o29_0
  clear c18_o29_0 ac18_o29_0
  have c19_o29_1 : w19.cell? ⟨w10.heap.size, 1, none⟩ = some (.slice (some ⟨g28, 0, none⟩) n2 n2) := hk'.cell (by simp <;> omega) c18_o29_1
  clear c18_o29_1 ac18_o29_1
  have ac19_a0_0 := fun o => keepa o c19_a0_0
  have ac19_a0_1 := fun o => keepa o c19_a0_1
  have ac19_a0_2 := fun o => keepa o c19_a0_2
  have ac19_a1_0 := fun o => keepa o c19_a1_0
  have ac19_a1_1 := fun o => keepa o c19_a1_1
  have ac19_a2_0 := fun o => keepa o c19_a2_0
  have ac19_a2_1 := fun o => keepa o c19_a2_1
  have ac19_o25_0 := fun o => keepa o c19_o25_0
  have ac19_o25_1 := fun o => keepa o c19_o25_1
  have ac19_o25_2 := fun o => keepa o c19_o25_2
  have ac19_o27_0 := fun o => keepa o c19_o27_0
  have ac19_o27_1 := fun o => keepa o c19_o27_1
  have ac19_o29_0 := fun o => keepa o c19_o29_0
  have ac19_o29_1 := fun o => keepa o c19_o29_1
  have rP0 := P0.out.keep hk' (by omega); clear P0; have P0 := Lib.hid rP0; clear rP0
  have rP1 := P1.out.keep hk' (by omega); clear P1; have P1 := Lib.hid rP1; clear rP1
  have rP2 := P2.out.keep hk' (by omega); clear P2; have P2 := Lib.hid rP2; clear rP2
  have rFo23 := Fo23.out.keep hk' (by omega); clear Fo23; have Fo23 := Lib.hid rFo23; clear rFo23
  have rFo25 := q19; clear Fo25; have Fo25 := Lib.hid rFo25; clear rFo25 q19
  have rFo27 := Fo27.out.keep hk' (by omega); clear Fo27; have Fo27 := Lib.hid rFo27; clear rFo27
  have rFo29 := Fo29.out.keep hk' (by omega); clear Fo29; have Fo29 := Lib.hid rFo29; clear rFo29
  have rFo36 := Fo36.out.keep hk' (by omega); clear Fo36; have Fo36 := Lib.hid rFo36; clear rFo36
  have rB := B.out.trans (hk'.below (B := w.heap.size) (by omega) (by omega)); clear B; have B := Lib.hid rB; clear rB
  clear hk hk'
  go_wp2_with fail
  refine (markDfa_c _ _ _ _ _ _ _ _ _ (by exact (Fo27.out)) (by omega) (by omega) (by omega)).mono ?_
  rintro e w20 ⟨rfl, q20, hk⟩
  have hk' : KeepR (w8.heap.size + 1) w9.heap.size w19 w20 := (by first | (with_reducible exact hk) | (with_reducible exact hk.up1) | (with_reducible exact hk.up1.up1))
  have z20 := hk'.size
  have c20_a0_0 : w20.cell? ⟨w.heap.size, 0, none⟩ = some (.int .i64 sy0) := hk'.cell (by simp <;> omega) c19_a0_0
  clear c19_a0_0 ac19_a0_0
  have c20_a0_1 : w20.cell? ⟨w.heap.size, 1, none⟩ = some (.int .i64 st0) := hk'.cell (by simp <;> omega) c19_a0_1
  clear c19_a0_1 ac19_a0_1
  have c20_a0_2 : w20.cell? ⟨w.heap.size, 2, none⟩ = some (.slice A0 n0 c0) := hk'.cell (by simp <;> omega) c19_a0_2
  clear c19_a0_2 ac19_a0_2
  have c20_a1_0 : w20.cell? ⟨(w.heap.size + 1), 0, none⟩ = some (.int .i64 st1) := hk'.cell (by simp <;> omega) c19_a1_0
  clear c19_a1_0 ac19_a1_0
  have c20_a1_1 : w20.cell? ⟨(w.heap.size + 1), 1, none⟩ = some (.slice A1 n1 c1) := hk'.cell (by simp <;> omega) c19_a1_1
  clear c19_a1_1 ac19_a1_1
  have c20_a2_0 : w20.cell? ⟨(w.heap.size + 1 + 1), 0, none⟩ = some (.int .i64 st2) := hk'.cell (by simp <;> omega) c19_a2_0
  clear c19_a2_0 ac19_a2_0
  have c20_a2_1 : w20.cell? ⟨(w.heap.size + 1 + 1), 1, none⟩ = some (.slice A2 n2 c2) := hk'.cell (by simp <;> omega) c19_a2_1
  clear c19_a2_1 ac19_a2_1
  have c20_o25_0 : w20.cell? ⟨w8.heap.size, 0, none⟩ = some (.int .i64 sy0) := hk'.cell (by simp <;> omega) c19_o25_0
  clear c19_o25_0 ac19_o25_0
  have c20_o25_1 : w20.cell? ⟨w8.heap.size, 1, none⟩ = some (.int .i64 st0) := hk'.cell (by simp <;> omega) c19_o25_1
  clear c19_o25_1 ac19_o25_1
  have c20_o25_2 : w20.cell? ⟨w8.heap.size, 2, none⟩ = some (.slice (some ⟨g024, 0, none⟩) n0 n0) := hk'.cell (by simp <;> omega) c19_o25_2
  clear c19_o25_2 ac19_o25_2
  have c20_o27_0 : w20.cell? ⟨w9.heap.size, 0, none⟩ = some (.int .i64 st1) := hk'.cell (by simp <;> omega) c19_o27_0
  clear c19_o27_0 ac19_o27_0
  have c20_o27_1 : w20.cell? ⟨w9.heap.size, 1, none⟩ = some (.slice (some ⟨g26, 0, none⟩) n1 n1) := hk'.cell (by simp <;> omega) c19_o27_1
  clear c19_o27_1 ac19_o27_1
  have c20_o29_0 : w20.cell? ⟨w10.heap.size, 0, none⟩ = some (.int .i64 st2) := hk'.cell (by simp <;> omega) c19_o29_0
  clear c19_o29_0 ac19_o29_0
  have c20_o29_1 : w20.cell? ⟨w10.heap.size, 1, none⟩ = some (.slice (some ⟨g28, 0, none⟩) n2 n2) := hk'.cell (by simp <;> omega) c19_o29_1
  clear c19_o29_1 ac19_o29_1
  have ac20_a0_0 := fun o => keepa o c20_a0_0
  have ac20_a0_1 := fun o => keepa o c20_a0_1
  have ac20_a0_2 := fun o => keepa o c20_a0_2
  have ac20_a1_0 := fun o => keepa o c20_a1_0
  have ac20_a1_1 := fun o => keepa o c20_a1_1
  have ac20_a2_0 := fun o => keepa o c20_a2_0
  have ac20_a2_1 := fun o => keepa o c20_a2_1
  have ac20_o25_0 := fun o => keepa o c20_o25_0
  have ac20_o25_1 := fun o => keepa o c20_o25_1
  have ac20_o25_2 := fun o => keepa o c20_o25_2
  have ac20_o27_0 := fun o => keepa o c20_o27_0
  have ac20_o27_1 := fun o => keepa o c20_o27_1
  have ac20_o29_0 := fun o => keepa o c20_o29_0
  have ac20_o29_1 := fun o => keepa o c20_o29_1
  have rP0 := P0.out.keep hk' (by omega); clear P0; have P0 := Lib.hid rP0; clear rP0
  have rP1 := P1.out.keep hk' (by omega); clear P1; have P1 := Lib.hid rP1; clear rP1
  have rP2 := P2.out.keep hk' (by omega); clear P2; have P2 := Lib.hid rP2; clear rP2
  have rFo23 := Fo23.out.keep hk' (by omega); clear Fo23; have Fo23 := Lib.hid rFo23; clear rFo23
  have rFo25 := Fo25.out.keep hk' (by omega); clear Fo25; have Fo25 := Lib.hid rFo25; clear rFo25
  have rFo27 := q20; clear Fo27; have Fo27 := Lib.hid rFo27; clear rFo27 q20
  have rFo29 := Fo29.out.keep hk' (by omega); clear Fo29; have Fo29 := Lib.hid rFo29; clear rFo29
  have rFo36 := Fo36.out.keep hk' (by omega); clear Fo36; have Fo36 := Lib.hid rFo36; clear rFo36
  have rB := B.out.trans (hk'.below (B := w.heap.size) (by omega) (by omega)); clear B; have B := Lib.hid rB; clear rB
  clear hk hk'
  go_wp2_with fail
  refine (markDfa_c _ _ _ _ _ _ _ _ _ (by exact (Fo29.out)) (by omega) (by omega) (by omega)).mono ?_
  rintro e w21 ⟨rfl, q21, hk⟩
  have hk' : KeepR (w9.heap.size + 1) w10.heap.size w20 w21 := (by first | (with_reducible exact hk) | (with_reducible exact hk.up1) | (with_reducible exact hk.up1.up1))
  have z21 := hk'.size
  have c21_a0_0 : w21.cell? ⟨w.heap.size, 0, none⟩ = some (.int .i64 sy0) := hk'.cell (by simp <;> omega) c20_a0_0
  clear c20_a0_0 ac20_a0_0
  have c21_a0_1 : w21.cell? ⟨w.heap.size, 1, none⟩ = some (.int .i64 st0) := hk'.cell (by simp <;> omega) c20_a0_1
  clear c20_a0_1 ac20_a0_1
  have c21_a0_2 : w21.cell? ⟨w.heap.size, 2, none⟩ = some (.slice A0 n0 c0) := hk'.cell (by simp <;> omega) c20_a0_2
  clear c20_a0_2 ac20_a0_2
  have c21_a1_0 : w21.cell? ⟨(w.heap.size + 1), 0, none⟩ = some (.int .i64 st1) := hk'.cell (by simp <;> omega) c20_a1_0
  clear c20_a1_0 ac20_a1_0
  have c21_a1_1 : w21.cell? ⟨(w.heap.size + 1), 1, none⟩ = some (.slice A1 n1 c1) := hk'.cell (by simp <;> omega) c20_a1_1
  clear c20_a1_1 ac20_a1_1
  have c21_a2_0 : w21.cell? ⟨(w.heap.size + 1 + 1), 0, none⟩ = some (.int .i64 st2) := hk'.cell (by simp <;> omega) c20_a2_0
  clear c20_a2_0 ac20_a2_0
  have c21_a2_1 : w21.cell? ⟨(w.heap.size + 1 + 1), 1, none⟩ = some (.slice A2 n2 c2) := hk'.cell (by simp <;> omega) c20_a2_1
  clear c20_a2_1 ac20_a2_1
  have c21_o25_0 : w21.cell? ⟨w8.heap.size, 0, none⟩ = some (.int .i64 sy0) := hk'.cell (by simp <;> omega) c20_o25_0
  clear c20_o25_0 ac20_o25_0
  have c21_o25_1 : w21.cell? ⟨w8.heap.size, 1, none⟩ = some (.int .i64 st0) := hk'.cell (by simp <;> omega) c20_o25_1
  clear c20_o25_1 ac20_o25_1
  have c21_o25_2 : w21.cell? ⟨w8.heap.size, 2, none⟩ = some (.slice (some ⟨g024, 0, none⟩) n0 n0) := hk'.cell (by simp <;> omega) c20_o25_2
  clear c20_o25_2 ac20_o25_2
  have c21_o27_0 : w21.cell? ⟨w9.heap.size, 0, none⟩ = some (.int .i64 st1) := hk'.cell (by simp <;> omega) c20_o27_0
  clear c20_o27_0 ac20_o27_0
  have c21_o27_1 : w21.cell? ⟨w9.heap.size, 1, none⟩ = some (.slice (some ⟨g26, 0, none⟩) n1 n1) := hk'.cell (by simp <;> omega) c20_o27_1
  clear c20_o27_1 ac20_o27_1
  have c21_o29_0 : w21.cell? ⟨w10.heap.size, 0, none⟩ = some (.int .i64 st2) := hk'.cell (by simp <;> omega) c20_o29_0
  clear c20_o29_0 ac20_o29_0
  have c21_o29_1 : w21.cell? ⟨w10.heap.size, 1, none⟩ = some (.slice (some ⟨g28, 0, none⟩) n2 n2) := hk'.cell (by simp <;> omega) c20_o29_1
  clear c20_o29_1 ac20_o29_1
  have ac21_a0_0 := fun o => keepa o c21_a0_0
  have ac21_a0_1 := fun o => keepa o c21_a0_1
  have ac21_a0_2 := fun o => keepa o c21_a0_2
  have ac21_a1_0 := fun o => keepa o c21_a1_0
  have ac21_a1_1 := fun o => keepa o c21_a1_1
  have ac21_a2_0 := fun o => keepa o c21_a2_0
  have ac21_a2_1 := fun o => keepa o c21_a2_1
  have ac21_o25_0 := fun o => keepa o c21_o25_0
  have ac21_o25_1 := fun o => keepa o c21_o25_1
  have ac21_o25_2 := fun o => keepa o c21_o25_2
  have ac21_o27_0 := fun o => keepa o c21_o27_0
  have ac21_o27_1 := fun o => keepa o c21_o27_1
  have ac21_o29_0 := fun o => keepa o c21_o29_0
  have ac21_o29_1 := fun o => keepa o c21_o29_1
  have rP0 := P0.out.keep hk' (by omega); clear P0; have P0 := Lib.hid rP0; clear rP0
  have rP1 := P1.out.keep hk' (by omega); clear P1; have P1 := Lib.hid rP1; clear rP1
  have rP2 := P2.out.keep hk' (by omega); clear P2; have P2 := Lib.hid rP2; clear rP2
  have rFo23 := Fo23.out.keep hk' (by omega); clear Fo23; have Fo23 := Lib.hid rFo23; clear rFo23
  have rFo25 := Fo25.out.keep hk' (by omega); clear Fo25; have Fo25 := Lib.hid rFo25; clear rFo25
  have rFo27 := Fo27.out.keep hk' (by omega); clear Fo27; have Fo27 := Lib.hid rFo27; clear rFo27
  have rFo29 := q21; clear Fo29; have Fo29 := Lib.hid rFo29; clear rFo29 q21
  have rFo36 := Fo36.out.keep hk' (by omega); clear Fo36; have Fo36 := Lib.hid rFo36; clear rFo36
  have rB := B.out.trans (hk'.below (B := w.heap.size) (by omega) (by omega)); clear B; have B := Lib.hid rB; clear rB
  clear hk hk'
  go_wp2_with fail
  refine (eqInt64SS_t _ _ _ _ _ _ _ _ _ (by exact (Fo36.out.rd)) (by exact (Fo23.out.rd)) (by omega) hI0_o36 (hm0_o36.out.trans hm0_o23.out.symm)).mono ?_
  rintro e w22 ⟨rfl, hb⟩
  have hb' : Below w21.heap.size w21 w22 := (by first | (with_reducible exact hb) | (with_reducible exact up1 hb) | (with_reducible exact up2 hb) | (with_reducible exact up3 hb) | (with_reducible exact up4 hb) | (with_reducible exact below_of_drew hb) | (with_reducible exact below_of_drew (up1 hb)))
  have z22 := hb'.size
  have c22_a0_0 : w22.cell? ⟨w.heap.size, 0, none⟩ = some (.int .i64 sy0) := keepc hb' c21_a0_0
  clear c21_a0_0 ac21_a0_0
  have c22_a0_1 : w22.cell? ⟨w.heap.size, 1, none⟩ = some (.int .i64 st0) := keepc hb' c21_a0_1
  clear c21_a0_1 ac21_a0_1
  have c22_a0_2 : w22.cell? ⟨w.heap.size, 2, none⟩ = some (.slice A0 n0 c0) := keepc hb' c21_a0_2
  clear c21_a0_2 ac21_a0_2
  have c22_a1_0 : w22.cell? ⟨(w.heap.size + 1), 0, none⟩ = some (.int .i64 st1) := keepc hb' c21_a1_0
  clear c21_a1_0 ac21_a1_0
  have c22_a1_1 : w22.cell? ⟨(w.heap.size + 1), 1, none⟩ = some (.slice A1 n1 c1) := keepc hb' c21_a1_1
  clear c21_a1_1 ac21_a1_1
  have c22_a2_0 : w22.cell? ⟨(w.heap.size + 1 + 1), 0, none⟩ = some (.int .i64 st2) := keepc hb' c21_a2_0
  clear c21_a2_0 ac21_a2_0
  have c22_a2_1 : w22.cell? ⟨(w.heap.size + 1 + 1), 1, none⟩ = some (.slice A2 n2 c2) := keepc hb' c21_a2_1
  clear c21_a2_1 ac21_a2_1
  have c22_o25_0 : w22.cell? ⟨w8.heap.size, 0, none⟩ = some (.int .i64 sy0) := keepc hb' c21_o25_0
  clear c21_o25_0 ac21_o25_0
  have c22_o25_1 : w22.cell? ⟨w8.heap.size, 1, none⟩ = some (.int .i64 st0) := keepc hb' c21_o25_1
  clear c21_o25_1 ac21_o25_1
  have c22_o25_2 : w22.cell? ⟨w8.heap.size, 2, none⟩ = some (.slice (some ⟨g024, 0, none⟩) n0 n0) := keepc hb' c21_o25_2
  clear c21_o25_2 ac21_o25_2
  have c22_o27_0 : w22.cell? ⟨w9.heap.size, 0, none⟩ = some (.int .i64 st1) := keepc hb' c21_o27_0
  clear c21_o27_0 ac21_o27_0
  have c22_o27_1 : w22.cell? ⟨w9.heap.size, 1, none⟩ = some (.slice (some ⟨g26, 0, none⟩) n1 n1) := keepc hb' c21_o27_1
  clear c21_o27_1 ac21_o27_1
  have c22_o29_0 : w22.cell? ⟨w10.heap.size, 0, none⟩ = some (.int .i64 st2) := keepc hb' c21_o29_0
  clear c21_o29_0 ac21_o29_0
  have c22_o29_1 : w22.cell? ⟨w10.heap.size, 1, none⟩ = some (.slice (some ⟨g28, 0, none⟩) n2 n2) := keepc hb' c21_o29_1
  clear c21_o29_1 ac21_o29_1
  have ac22_a0_0 := fun o => keepa o c22_a0_0
  have ac22_a0_1 := fun o => keepa o c22_a0_1
  have ac22_a0_2 := fun o => keepa o c22_a0_2
  have ac22_a1_0 := fun o => keepa o c22_a1_0
  have ac22_a1_1 := fun o => keepa o c22_a1_1
  have ac22_a2_0 := fun o => keepa o c22_a2_0
  have ac22_a2_1 := fun o => keepa o c22_a2_1
  have ac22_o25_0 := fun o => keepa o c22_o25_0
  have ac22_o25_1 := fun o => keepa o c22_o25_1
  have ac22_o25_2 := fun o => keepa o c22_o25_2
  have ac22_o27_0 := fun o => keepa o c22_o27_0
  have ac22_o27_1 := fun o => keepa o c22_o27_1
  have ac22_o29_0 := fun o => keepa o c22_o29_0
  have ac22_o29_1 := fun o => keepa o c22_o29_1
  have rP0 := P0.out.below hb'; clear P0; have P0 := Lib.hid rP0; clear rP0
  have rP1 := P1.out.below hb'; clear P1; have P1 := Lib.hid rP1; clear rP1
  have rP2 := P2.out.below hb'; clear P2; have P2 := Lib.hid rP2; clear rP2
  have rFo23 := Fo23.out.below hb'; clear Fo23; have Fo23 := Lib.hid rFo23; clear rFo23
  have rFo25 := Fo25.out.below hb'; clear Fo25; have Fo25 := Lib.hid rFo25; clear rFo25
  have rFo27 := Fo27.out.below hb'; clear Fo27; have Fo27 := Lib.hid rFo27; clear rFo27
  have rFo29 := Fo29.out.below hb'; clear Fo29; have Fo29 := Lib.hid rFo29; clear rFo29
  have rFo36 := Fo36.out.below hb'; clear Fo36; have Fo36 := Lib.hid rFo36; clear rFo36
  have rB := below_chain B.out (by omega) hb'; clear B; have B := Lib.hid rB; clear rB
  clear hb hb'
  go_wp2_with fail
  refine (markInt64SS_c _ _ _ _ _ _ _ _ (by exact (Fo36.out)) (by omega) hI0_o36 (by omega) (by omega) (by omega)).mono ?_
  rintro e w23 ⟨rfl, q23, hk⟩
  have hk' : KeepR (w10.heap.size + 1) w11.heap.size w22 w23 := (by first | (with_reducible exact hk) | (with_reducible exact hk.up1) | (with_reducible exact hk.up1.up1))
  have z23 := hk'.size
  have c23_a0_0 : w23.cell? ⟨w.heap.size, 0, none⟩ = some (.int .i64 sy0) := hk'.cell (by simp <;> omega) c22_a0_0
  clear c22_a0_0 ac22_a0_0
  have c23_a0_1 : w23.cell? ⟨w.heap.size, 1, none⟩ = some (.int .i64 st0) := hk'.cell (by simp <;> omega) c22_a0_1
  clear c22_a0_1 ac22_a0_1
  have c23_a0_2 : w23.cell? ⟨w.heap.size, 2, none⟩ = some (.slice A0 n0 c0) := hk'.cell (by simp <;> omega) c22_a0_2
  clear c22_a0_2 ac22_a0_2
  have c23_a1_0 : w23.cell? ⟨(w.heap.size + 1), 0, none⟩ = some (.int .i64 st1) := hk'.cell (by simp <;> omega) c22_a1_0
  clear c22_a1_0 ac22_a1_0
  have c23_a1_1 : w23.cell? ⟨(w.heap.size + 1), 1, none⟩ = some (.slice A1 n1 c1) := hk'.cell (by simp <;> omega) c22_a1_1
  clear c22_a1_1 ac22_a1_1
  have c23_a2_0 : w23.cell? ⟨(w.heap.size + 1 + 1), 0, none⟩ = some (.int .i64 st2) := hk'.cell (by simp <;> omega) c22_a2_0
  clear c22_a2_0 ac22_a2_0
  have c23_a2_1 : w23.cell? ⟨(w.heap.size + 1 + 1), 1, none⟩ = some (.slice A2 n2 c2) := hk'.cell (by simp <;> omega) c22_a2_1
  clear c22_a2_1 ac22_a2_1
  have c23_o25_0 : w23.cell? ⟨w8.heap.size, 0, none⟩ = some (.int .i64 sy0) := hk'.cell (by simp <;> omega) c22_o25_0
  clear c22_o25_0 ac22_o25_0
  have c23_o25_1 : w23.cell? ⟨w8.heap.size, 1, none⟩ = some (.int .i64 st0) := hk'.cell (by simp <;> omega) c22_o25_1
  clear c22_o25_1 ac22_o25_1
  have c23_o25_2 : w23.cell? ⟨w8.heap.size, 2, none⟩ = some (.slice (some ⟨g024, 0, none⟩) n0 n0) := hk'.cell (by simp <;> omega) c22_o25_2
  clear c22_o25_2 ac22_o25_2
  have c23_o27_0 : w23.cell? ⟨w9.heap.size, 0, none⟩ = some (.int .i64 st1) := hk'.cell (by simp <;> omega) c22_o27_0
  clear c22_o27_0 ac22_o27_0
  have c23_o27_1 : w23.cell? ⟨w9.heap.size, 1, none⟩ = some (.slice (some ⟨g26, 0, none⟩) n1 n1) := hk'.cell (by simp <;> omega) c22_o27_1
  clear c22_o27_1 ac22_o27_1
  have c23_o29_0 : w23.cell? ⟨w10.heap.size, 0, none⟩ = some (.int .i64 st2) := hk'.cell (by simp <;> omega) c22_o29_0
  clear c22_o29_0 ac22_o29_0
  have c23_o29_1 : w23.cell? ⟨w10.heap.size, 1, none⟩ = some (.slice (some ⟨g28, 0, none⟩) n2 n2) := hk'.cell (by simp <;> omega) c22_o29_1
  clear c22_o29_1 ac22_o29_1
  have ac23_a0_0 := fun o => keepa o c23_a0_0
  have ac23_a0_1 := fun o => keepa o c23_a0_1
  have ac23_a0_2 := fun o => keepa o c23_a0_2
  have ac23_a1_0 := fun o => keepa o c23_a1_0
  have ac23_a1_1 := fun o => keepa o c23_a1_1
  have ac23_a2_0 := fun o => keepa o c23_a2_0
  have ac23_a2_1 := fun o => keepa o c23_a2_1
  have ac23_o25_0 := fun o => keepa o c23_o25_0
  have ac23_o25_1 := fun o => keepa o c23_o25_1
  have ac23_o25_2 := fun o => keepa o c23_o25_2
  have ac23_o27_0 := fun o => keepa o c23_o27_0
  have ac23_o27_1 := fun o => keepa o c23_o27_1
  have ac23_o29_0 := fun o => keepa o c23_o29_0
  have ac23_o29_1 := fun o => keepa o c23_o29_1
  have rP0 := P0.out.keep hk' (by omega); clear P0; have P0 := Lib.hid rP0; clear rP0
  have rP1 := P1.out.keep hk' (by omega); clear P1; have P1 := Lib.hid rP1; clear rP1
  have rP2 := P2.out.keep hk' (by omega); clear P2; have P2 := Lib.hid rP2; clear rP2
  have rFo23 := Fo23.out.keep hk' (by omega); clear Fo23; have Fo23 := Lib.hid rFo23; clear rFo23
  have rFo25 := Fo25.out.keep hk' (by omega); clear Fo25; have Fo25 := Lib.hid rFo25; clear rFo25
  have rFo27 := Fo27.out.keep hk' (by omega); clear Fo27; have Fo27 := Lib.hid rFo27; clear rFo27
  have rFo29 := Fo29.out.keep hk' (by omega); clear Fo29; have Fo29 := Lib.hid rFo29; clear rFo29
  have rFo36 := q23; clear Fo36; have Fo36 := Lib.hid rFo36; clear rFo36 q23
  have rB := B.out.trans (hk'.below (B := w.heap.size) (by omega) (by omega)); clear B; have B := Lib.hid rB; clear rB
  clear hk hk'
  go_wp2_with fail
  refine (heldInt64SS_c _ _ _ _ _ _ (by exact (Fo36.out.rd)) (by omega) hI0_o36 (by omega) (by omega) (by omega)).mono ?_
  rintro e w24 ⟨rfl, hb⟩
  have hb' : Below w23.heap.size w23 w24 := (by first | (with_reducible exact hb) | (with_reducible exact up1 hb) | (with_reducible exact up2 hb) | (with_reducible exact up3 hb) | (with_reducible exact up4 hb) | (with_reducible exact below_of_drew hb) | (with_reducible exact below_of_drew (up1 hb)))
  have z24 := hb'.size
  have c24_a0_0 : w24.cell? ⟨w.heap.size, 0, none⟩ = some (.int .i64 sy0) := keepc hb' c23_a0_0
  clear c23_a0_0 ac23_a0_0
  have c24_a0_1 : w24.cell? ⟨w.heap.size, 1, none⟩ = some (.int .i64 st0) := keepc hb' c23_a0_1
  clear c23_a0_1 ac23_a0_1
  have c24_a0_2 : w24.cell? ⟨w.heap.size, 2, none⟩ = some (.slice A0 n0 c0) := keepc hb' c23_a0_2
  clear c23_a0_2 ac23_a0_2
  have c24_a1_0 : w24.cell? ⟨(w.heap.size + 1), 0, none⟩ = some (.int .i64 st1) := keepc hb' c23_a1_0
  clear c23_a1_0 ac23_a1_0
  have c24_a1_1 : w24.cell? ⟨(w.heap.size + 1), 1, none⟩ = some (.slice A1 n1 c1) := keepc hb' c23_a1_1
  clear c23_a1_1 ac23_a1_1
  have c24_a2_0 : w24.cell? ⟨(w.heap.size + 1 + 1), 0, none⟩ = some (.int .i64 st2) := keepc hb' c23_a2_0
  clear c23_a2_0 ac23_a2_0
  have c24_a2_1 : w24.cell? ⟨(w.heap.size + 1 + 1), 1, none⟩ = some (.slice A2 n2 c2) := keepc hb' c23_a2_1
  clear c23_a2_1 ac23_a2_1
  have c24_o25_0 : w24.cell? ⟨w8.heap.size, 0, none⟩ = some (.int .i64 sy0) := keepc hb' c23_o25_0
  clear c23_o25_0 ac23_o25_0
  have c24_o25_1 : w24.cell? ⟨w8.heap.size, 1, none⟩ = some (.int .i64 st0) := keepc hb' c23_o25_1
  clear c23_o25_1 ac23_o25_1
  have c24_o25_2 : w24.cell? ⟨w8.heap.size, 2, none⟩ = some (.slice (some ⟨g024, 0, none⟩) n0 n0) := keepc hb' c23_o25_2
  clear c23_o25_2 ac23_o25_2
  have c24_o27_0 : w24.cell? ⟨w9.heap.size, 0, none⟩ = some (.int .i64 st1) := keepc hb' c23_o27_0
  clear c23_o27_0 ac23_o27_0
  have c24_o27_1 : w24.cell? ⟨w9.heap.size, 1, none⟩ = some (.slice (some ⟨g26, 0, none⟩) n1 n1) := keepc hb' c23_o27_1
  clear c23_o27_1 ac23_o27_1
  have c24_o29_0 : w24.cell? ⟨w10.heap.size, 0, none⟩ = some (.int .i64 st2) := keepc hb' c23_o29_0
  clear c23_o29_0 ac23_o29_0
  have c24_o29_1 : w24.cell? ⟨w10.heap.size, 1, none⟩ = some (.slice (some ⟨g28, 0, none⟩) n2 n2) := keepc hb' c23_o29_1
  clear c23_o29_1 ac23_o29_1
  have ac24_a0_0 := fun o => keepa o c24_a0_0
  have ac24_a0_1 := fun o => keepa o c24_a0_1
  have ac24_a0_2 := fun o => keepa o c24_a0_2
  have ac24_a1_0 := fun o => keepa o c24_a1_0
  have ac24_a1_1 := fun o => keepa o c24_a1_1
  have ac24_a2_0 := fun o => keepa o c24_a2_0
  have ac24_a2_1 := fun o => keepa o c24_a2_1
  have ac24_o25_0 := fun o => keepa o c24_o25_0
  have ac24_o25_1 := fun o => keepa o c24_o25_1
  have ac24_o25_2 := fun o => keepa o c24_o25_2
  have ac24_o27_0 := fun o => keepa o c24_o27_0
  have ac24_o27_1 := fun o => keepa o c24_o27_1
  have ac24_o29_0 := fun o => keepa o c24_o29_0
  have ac24_o29_1 := fun o => keepa o c24_o29_1
  have rP0 := P0.out.below hb'; clear P0; have P0 := Lib.hid rP0; clear rP0
  have rP1 := P1.out.below hb'; clear P1; have P1 := Lib.hid rP1; clear rP1
  have rP2 := P2.out.below hb'; clear P2; have P2 := Lib.hid rP2; clear rP2
  have rFo23 := Fo23.out.below hb'; clear Fo23; have Fo23 := Lib.hid rFo23; clear rFo23
  have rFo25 := Fo25.out.below hb'; clear Fo25; have Fo25 := Lib.hid rFo25; clear rFo25
  have rFo27 := Fo27.out.below hb'; clear Fo27; have Fo27 := Lib.hid rFo27; clear rFo27
  have rFo29 := Fo29.out.below hb'; clear Fo29; have Fo29 := Lib.hid rFo29; clear rFo29
  have rFo36 := Fo36.out.below hb'; clear Fo36; have Fo36 := Lib.hid rFo36; clear rFo36
  have rB := below_chain B.out (by omega) hb'; clear B; have B := Lib.hid rB; clear rB
  clear hb hb'
  go_wp2_with fail
  have fx_c24_a0_0 := Ext.cell c24_a0_0
  have fx_c24_a0_1 := Ext.cell c24_a0_1
  have fx_c24_a0_2 := Ext.cell c24_a0_2
  have fx_c24_a1_0 := Ext.cell c24_a1_0
  have fx_c24_a1_1 := Ext.cell c24_a1_1
  have fx_c24_a2_0 := Ext.cell c24_a2_0
  have fx_c24_a2_1 := Ext.cell c24_a2_1
  have fx_c24_o25_0 := Ext.cell c24_o25_0
  have fx_c24_o25_1 := Ext.cell c24_o25_1
  have fx_c24_o25_2 := Ext.cell c24_o25_2
  have fx_c24_o27_0 := Ext.cell c24_o27_0
  have fx_c24_o27_1 := Ext.cell c24_o27_1
  have fx_c24_o29_0 := Ext.cell c24_o29_0
  have fx_c24_o29_1 := Ext.cell c24_o29_1
  refine Mix.wp_region_mix [3, 1, 3, 1, 3, 1, 1, 0, 0, 0, 0, 0] (fun w' => ∃ x : Ext w24, w' = x.w) (by kernel_rfl) (by kernel_rfl) (InExt.drew _) ?_
  repeat (first | (refine Mix.wpMix_read (by rfl) ?_; go_big_quiet_step (fail); refine wpQuiet_nil ?_) | (refine Mix.wpMix_pure (by rfl) ?_; go_big_quiet_step (fail); refine wpQuiet_nil ?_))
  refine Mix.wpMix_chg (by rfl) (fun K hK => ?_)
  go_wp2_with fail
  refine (toMachine_c _ _ _ _ _ _ _ (by exact (P0.out.rd)) (by omega)).mono ?_
  rintro e w25 ⟨g043, rfl, q25, hb⟩
  have hb' : Below w24.heap.size w24 w25 := (by first | (with_reducible exact hb) | (with_reducible exact up1 hb) | (with_reducible exact up2 hb) | (with_reducible exact up3 hb) | (with_reducible exact up4 hb) | (with_reducible exact below_of_drew hb) | (with_reducible exact below_of_drew (up1 hb)))
  have z25 := hb'.size
  have c25_a0_0 : w25.cell? ⟨w.heap.size, 0, none⟩ = some (.int .i64 sy0) := keepc hb' c24_a0_0
  clear c24_a0_0 ac24_a0_0
  have c25_a0_1 : w25.cell? ⟨w.heap.size, 1, none⟩ = some (.int .i64 st0) := keepc hb' c24_a0_1
  clear c24_a0_1 ac24_a0_1
  have c25_a0_2 : w25.cell? ⟨w.heap.size, 2, none⟩ = some (.slice A0 n0 c0) := keepc hb' c24_a0_2
  clear c24_a0_2 ac24_a0_2
  have c25_a1_0 : w25.cell? ⟨(w.heap.size + 1), 0, none⟩ = some (.int .i64 st1) := keepc hb' c24_a1_0
  clear c24_a1_0 ac24_a1_0
  have c25_a1_1 : w25.cell? ⟨(w.heap.size + 1), 1, none⟩ = some (.slice A1 n1 c1) := keepc hb' c24_a1_1
  clear c24_a1_1 ac24_a1_1
  have c25_a2_0 : w25.cell? ⟨(w.heap.size + 1 + 1), 0, none⟩ = some (.int .i64 st2) := keepc hb' c24_a2_0
  clear c24_a2_0 ac24_a2_0
  have c25_a2_1 : w25.cell? ⟨(w.heap.size + 1 + 1), 1, none⟩ = some (.slice A2 n2 c2) := keepc hb' c24_a2_1
  clear c24_a2_1 ac24_a2_1
  have c25_o25_0 : w25.cell? ⟨w8.heap.size, 0, none⟩ = some (.int .i64 sy0) := keepc hb' c24_o25_0
  clear c24_o25_0 ac24_o25_0
  have c25_o25_1 : w25.cell? ⟨w8.heap.size, 1, none⟩ = some (.int .i64 st0) := keepc hb' c24_o25_1
  clear c24_o25_1 ac24_o25_1
  have c25_o25_2 : w25.cell? ⟨w8.heap.size, 2, none⟩ = some (.slice (some ⟨g024, 0, none⟩) n0 n0) := keepc hb' c24_o25_2
  clear c24_o25_2 ac24_o25_2
  have c25_o27_0 : w25.cell? ⟨w9.heap.size, 0, none⟩ = some (.int .i64 st1) := keepc hb' c24_o27_0
  clear c24_o27_0 ac24_o27_0
  have c25_o27_1 : w25.cell? ⟨w9.heap.size, 1, none⟩ = some (.slice (some ⟨g26, 0, none⟩) n1 n1) := keepc hb' c24_o27_1
  clear c24_o27_1 ac24_o27_1
  have c25_o29_0 : w25.cell? ⟨w10.heap.size, 0, none⟩ = some (.int .i64 st2) := keepc hb' c24_o29_0
  clear c24_o29_0 ac24_o29_0
  have c25_o29_1 : w25.cell? ⟨w10.heap.size, 1, none⟩ = some (.slice (some ⟨g28, 0, none⟩) n2 n2) := keepc hb' c24_o29_1
  clear c24_o29_1 ac24_o29_1
  have ac25_a0_0 := fun o => keepa o c25_a0_0
  have ac25_a0_1 := fun o => keepa o c25_a0_1
  have ac25_a0_2 := fun o => keepa o c25_a0_2
  have ac25_a1_0 := fun o => keepa o c25_a1_0
  have ac25_a1_1 := fun o => keepa o c25_a1_1
  have ac25_a2_0 := fun o => keepa o c25_a2_0
  have ac25_a2_1 := fun o => keepa o c25_a2_1
  have ac25_o25_0 := fun o => keepa o c25_o25_0
  have ac25_o25_1 := fun o => keepa o c25_o25_1
  have ac25_o25_2 := fun o => keepa o c25_o25_2
  have ac25_o27_0 := fun o => keepa o c25_o27_0
  have ac25_o27_1 := fun o => keepa o c25_o27_1
  have ac25_o29_0 := fun o => keepa o c25_o29_0
  have ac25_o29_1 := fun o => keepa o c25_o29_1
  have rP0 := P0.out.below hb'; clear P0; have P0 := Lib.hid rP0; clear rP0
  have rP1 := P1.out.below hb'; clear P1; have P1 := Lib.hid rP1; clear rP1
  have rP2 := P2.out.below hb'; clear P2; have P2 := Lib.hid rP2; clear rP2
  have rFo23 := Fo23.out.below hb'; clear Fo23; have Fo23 := Lib.hid rFo23; clear rFo23
  have rFo25 := Fo25.out.below hb'; clear Fo25; have Fo25 := Lib.hid rFo25; clear rFo25
  have rFo27 := Fo27.out.below hb'; clear Fo27; have Fo27 := Lib.hid rFo27; clear rFo27
  have rFo29 := Fo29.out.below hb'; clear Fo29; have Fo29 := Lib.hid rFo29; clear rFo29
  have rFo36 := Fo36.out.below hb'; clear Fo36; have Fo36 := Lib.hid rFo36; clear rFo36
  have rB := below_chain B.out (by omega) hb'; clear B; have B := Lib.hid rB; clear rB
  have Fo44 := Lib.hid q25; clear q25
  have em25 : Below w24.heap.size w24 w25 := hb'
  clear hb hb'
  go_wp2_with fail
  refine hK _ _ ⟨⟨_, em25⟩, rfl⟩ ?_
  clear hK K
  repeat (first | (refine Mix.wpMix_read (by rfl) ?_; go_big_quiet_step (fail); refine wpQuiet_nil ?_) | (refine Mix.wpMix_pure (by rfl) ?_; go_big_quiet_step (fail); refine wpQuiet_nil ?_))
  refine Mix.wpMix_chg (by rfl) (fun K hK => ?_)
  go_wp2_with fail
  refine (toDfa_c _ _ _ _ _ _ (by exact (P1.out.1)) (by omega)).mono ?_
  rintro e w26 ⟨g45, rfl, q26, hb⟩
  have hb' : Below w25.heap.size w25 w26 := (by first | (with_reducible exact hb) | (with_reducible exact up1 hb) | (with_reducible exact up2 hb) | (with_reducible exact up3 hb) | (with_reducible exact up4 hb) | (with_reducible exact below_of_drew hb) | (with_reducible exact below_of_drew (up1 hb)))
  have z26 := hb'.size
  have c26_a0_0 : w26.cell? ⟨w.heap.size, 0, none⟩ = some (.int .i64 sy0) := keepc hb' c25_a0_0
  clear c25_a0_0 ac25_a0_0
  have c26_a0_1 : w26.cell? ⟨w.heap.size, 1, none⟩ = some (.int .i64 st0) := keepc hb' c25_a0_1
  clear c25_a0_1 ac25_a0_1
  have c26_a0_2 : w26.cell? ⟨w.heap.size, 2, none⟩ = some (.slice A0 n0 c0) := keepc hb' c25_a0_2
  clear c25_a0_2 ac25_a0_2
  have c26_a1_0 : w26.cell? ⟨(w.heap.size + 1), 0, none⟩ = some (.int .i64 st1) := keepc hb' c25_a1_0
  clear c25_a1_0 ac25_a1_0
  have c26_a1_1 : w26.cell? ⟨(w.heap.size + 1), 1, none⟩ = some (.slice A1 n1 c1) := keepc hb' c25_a1_1
  clear c25_a1_1 ac25_a1_1
  have c26_a2_0 : w26.cell? ⟨(w.heap.size + 1 + 1), 0, none⟩ = some (.int .i64 st2) := keepc hb' c25_a2_0
  clear c25_a2_0 ac25_a2_0
  have c26_a2_1 : w26.cell? ⟨(w.heap.size + 1 + 1), 1, none⟩ = some (.slice A2 n2 c2) := keepc hb' c25_a2_1
  clear c25_a2_1 ac25_a2_1
  have c26_o25_0 : w26.cell? ⟨w8.heap.size, 0, none⟩ = some (.int .i64 sy0) := keepc hb' c25_o25_0
  clear c25_o25_0 ac25_o25_0
  have c26_o25_1 : w26.cell? ⟨w8.heap.size, 1, none⟩ = some (.int .i64 st0) := keepc hb' c25_o25_1
  clear c25_o25_1 ac25_o25_1
  have c26_o25_2 : w26.cell? ⟨w8.heap.size, 2, none⟩ = some (.slice (some ⟨g024, 0, none⟩) n0 n0) := keepc hb' c25_o25_2
  clear c25_o25_2 ac25_o25_2
  have c26_o27_0 : w26.cell? ⟨w9.heap.size, 0, none⟩ = some (.int .i64 st1) := keepc hb' c25_o27_0
  clear c25_o27_0 ac25_o27_0
  have c26_o27_1 : w26.cell? ⟨w9.heap.size, 1, none⟩ = some (.slice (some ⟨g26, 0, none⟩) n1 n1) := keepc hb' c25_o27_1
  clear c25_o27_1 ac25_o27_1
  have c26_o29_0 : w26.cell? ⟨w10.heap.size, 0, none⟩ = some (.int .i64 st2) := keepc hb' c25_o29_0
  clear c25_o29_0 ac25_o29_0
  have c26_o29_1 : w26.cell? ⟨w10.heap.size, 1, none⟩ = some (.slice (some ⟨g28, 0, none⟩) n2 n2) := keepc hb' c25_o29_1
  clear c25_o29_1 ac25_o29_1
  have ac26_a0_0 := fun o => keepa o c26_a0_0
  have ac26_a0_1 := fun o => keepa o c26_a0_1
  have ac26_a0_2 := fun o => keepa o c26_a0_2
  have ac26_a1_0 := fun o => keepa o c26_a1_0
  have ac26_a1_1 := fun o => keepa o c26_a1_1
  have ac26_a2_0 := fun o => keepa o c26_a2_0
  have ac26_a2_1 := fun o => keepa o c26_a2_1
  have ac26_o25_0 := fun o => keepa o c26_o25_0
  have ac26_o25_1 := fun o => keepa o c26_o25_1
  have ac26_o25_2 := fun o => keepa o c26_o25_2
  have ac26_o27_0 := fun o => keepa o c26_o27_0
  have ac26_o27_1 := fun o => keepa o c26_o27_1
  have ac26_o29_0 := fun o => keepa o c26_o29_0
  have ac26_o29_1 := fun o => keepa o c26_o29_1
  have rP0 := P0.out.below hb'; clear P0; have P0 := Lib.hid rP0; clear rP0
  have rP1 := P1.out.below hb'; clear P1; have P1 := Lib.hid rP1; clear rP1
  have rP2 := P2.out.below hb'; clear P2; have P2 := Lib.hid rP2; clear rP2
  have rFo23 := Fo23.out.below hb'; clear Fo23; have Fo23 := Lib.hid rFo23; clear rFo23
  have rFo25 := Fo25.out.below hb'; clear Fo25; have Fo25 := Lib.hid rFo25; clear rFo25
  have rFo27 := Fo27.out.below hb'; clear Fo27; have Fo27 := Lib.hid rFo27; clear rFo27
  have rFo29 := Fo29.out.below hb'; clear Fo29; have Fo29 := Lib.hid rFo29; clear rFo29
  have rFo36 := Fo36.out.below hb'; clear Fo36; have Fo36 := Lib.hid rFo36; clear rFo36
  have rFo44 := Fo44.out.below hb'; clear Fo44; have Fo44 := Lib.hid rFo44; clear rFo44
  have rB := below_chain B.out (by omega) hb'; clear B; have B := Lib.hid rB; clear rB
  have Fo46 := Lib.hid q26; clear q26
  have em26 : Below w24.heap.size w24 w26 := below_chain em25 (by omega) hb'
  clear hb hb'
  go_wp2_with fail
  refine hK _ _ ⟨⟨_, em26⟩, rfl⟩ ?_
  clear hK K
  repeat (first | (refine Mix.wpMix_read (by rfl) ?_; go_big_quiet_step (fail); refine wpQuiet_nil ?_) | (refine Mix.wpMix_pure (by rfl) ?_; go_big_quiet_step (fail); refine wpQuiet_nil ?_))
  refine Mix.wpMix_chg (by rfl) (fun K hK => ?_)
  go_wp2_with fail
  refine (toDfa_c _ _ _ _ _ _ (by exact (P2.out.1)) (by omega)).mono ?_
  rintro e w27 ⟨g47, rfl, q27, hb⟩
  have hb' : Below w26.heap.size w26 w27 := (by first | (with_reducible exact hb) | (with_reducible exact up1 hb) | (with_reducible exact up2 hb) | (with_reducible exact up3 hb) | (with_reducible exact up4 hb) | (with_reducible exact below_of_drew hb) | (with_reducible exact below_of_drew (up1 hb)))
  have z27 := hb'.size
  have c27_a0_0 : w27.cell? ⟨w.heap.size, 0, none⟩ = some (.int .i64 sy0) := keepc hb' c26_a0_0
  clear c26_a0_0 ac26_a0_0
  have c27_a0_1 : w27.cell? ⟨w.heap.size, 1, none⟩ = some (.int .i64 st0) := keepc hb' c26_a0_1
  clear c26_a0_1 ac26_a0_1
  have c27_a0_2 : w27.cell? ⟨w.heap.size, 2, none⟩ = some (.slice A0 n0 c0) := keepc hb' c26_a0_2
  clear c26_a0_2 ac26_a0_2
  have c27_a1_0 : w27.cell? ⟨(w.heap.size + 1), 0, none⟩ = some (.int .i64 st1) := keepc hb' c26_a1_0
  clear c26_a1_0 ac26_a1_0
  have c27_a1_1 : w27.cell? ⟨(w.heap.size + 1), 1, none⟩ = some (.slice A1 n1 c1) := keepc hb' c26_a1_1
  clear c26_a1_1 ac26_a1_1
  have c27_a2_0 : w27.cell? ⟨(w.heap.size + 1 + 1), 0, none⟩ = some (.int .i64 st2) := keepc hb' c26_a2_0
  clear c26_a2_0 ac26_a2_0
  have c27_a2_1 : w27.cell? ⟨(w.heap.size + 1 + 1), 1, none⟩ = some (.slice A2 n2 c2) := keepc hb' c26_a2_1
  clear c26_a2_1 ac26_a2_1
  have c27_o25_0 : w27.cell? ⟨w8.heap.size, 0, none⟩ = some (.int .i64 sy0) := keepc hb' c26_o25_0
  clear c26_o25_0 ac26_o25_0
  have c27_o25_1 : w27.cell? ⟨w8.heap.size, 1, none⟩ = some (.int .i64 st0) := keepc hb' c26_o25_1
  clear c26_o25_1 ac26_o25_1
  have c27_o25_2 : w27.cell? ⟨w8.heap.size, 2, none⟩ = some (.slice (some ⟨g024, 0, none⟩) n0 n0) := keepc hb' c26_o25_2
  clear c26_o25_2 ac26_o25_2
  have c27_o27_0 : w27.cell? ⟨w9.heap.size, 0, none⟩ = some (.int .i64 st1) := keepc hb' c26_o27_0
  clear c26_o27_0 ac26_o27_0
  have c27_o27_1 : w27.cell? ⟨w9.heap.size, 1, none⟩ = some (.slice (some ⟨g26, 0, none⟩) n1 n1) := keepc hb' c26_o27_1
  clear c26_o27_1 ac26_o27_1
  have c27_o29_0 : w27.cell? ⟨w10.heap.size, 0, none⟩ = some (.int .i64 st2) := keepc hb' c26_o29_0
  clear c26_o29_0 ac26_o29_0
  have c27_o29_1 : w27.cell? ⟨w10.heap.size, 1, none⟩ = some (.slice (some ⟨g28, 0, none⟩) n2 n2) := keepc hb' c26_o29_1
  clear c26_o29_1 ac26_o29_1
  have ac27_a0_0 := fun o => keepa o c27_a0_0
  have ac27_a0_1 := fun o => keepa o c27_a0_1
  have ac27_a0_2 := fun o => keepa o c27_a0_2
  have ac27_a1_0 := fun o => keepa o c27_a1_0
  have ac27_a1_1 := fun o => keepa o c27_a1_1
  have ac27_a2_0 := fun o => keepa o c27_a2_0
  have ac27_a2_1 := fun o => keepa o c27_a2_1
  have ac27_o25_0 := fun o => keepa o c27_o25_0
  have ac27_o25_1 := fun o => keepa o c27_o25_1
  have ac27_o25_2 := fun o => keepa o c27_o25_2
  have ac27_o27_0 := fun o => keepa o c27_o27_0
  have ac27_o27_1 := fun o => keepa o c27_o27_1
  have ac27_o29_0 := fun o => keepa o c27_o29_0
  have ac27_o29_1 := fun o => keepa o c27_o29_1
  have rP0 := P0.out.below hb'; clear P0; have P0 := Lib.hid rP0; clear rP0
  have rP1 := P1.out.below hb'; clear P1; have P1 := Lib.hid rP1; clear rP1
  have rP2 := P2.out.below hb'; clear P2; have P2 := Lib.hid rP2; clear rP2
  have rFo23 := Fo23.out.below hb'; clear Fo23; have Fo23 := Lib.hid rFo23; clear rFo23
  have rFo25 := Fo25.out.below hb'; clear Fo25; have Fo25 := Lib.hid rFo25; clear rFo25
  have rFo27 := Fo27.out.below hb'; clear Fo27; have Fo27 := Lib.hid rFo27; clear rFo27
  have rFo29 := Fo29.out.below hb'; clear Fo29; have Fo29 := Lib.hid rFo29; clear rFo29
  have rFo36 := Fo36.out.below hb'; clear Fo36; have Fo36 := Lib.hid rFo36; clear rFo36
  have rFo44 := Fo44.out.below hb'; clear Fo44; have Fo44 := Lib.hid rFo44; clear rFo44
  have rFo46 := Fo46.out.below hb'; clear Fo46; have Fo46 := Lib.hid rFo46; clear rFo46
  have rB := below_chain B.out (by omega) hb'; clear B; have B := Lib.hid rB; clear rB
  have Fo48 := Lib.hid q27; clear q27
  have em27 : Below w24.heap.size w24 w27 := below_chain em26 (by omega) hb'
  clear hb hb'
  go_wp2_with fail
  refine hK _ _ ⟨⟨_, em27⟩, rfl⟩ ?_
  clear hK K
  refine Mix.wpMix_chg (by rfl) (fun K hK => ?_)
  go_wp2_with fail
  refine (iAbstractClosure_c _ _ _ _ _ _ _ _ _ _ _ _ _ _ _ _ _ (by exact (Fo44.out.rd)) (by exact (Fo46.out.rdI)) (by exact (Fo48.out.rdI)) (by omega) (by omega) (by omega)).mono ?_
  rintro e w28 ⟨A49, n50, c51, its52, rfl, q53, l54, hb⟩
  have hb' : Below w27.heap.size w27 w28 := (by first | (with_reducible exact hb) | (with_reducible exact up1 hb) | (with_reducible exact up2 hb) | (with_reducible exact up3 hb) | (with_reducible exact up4 hb) | (with_reducible exact below_of_drew hb) | (with_reducible exact below_of_drew (up1 hb)))
  have z28 := hb'.size
  have c28_a0_0 : w28.cell? ⟨w.heap.size, 0, none⟩ = some (.int .i64 sy0) := keepc hb' c27_a0_0
  clear c27_a0_0 ac27_a0_0
  have c28_a0_1 : w28.cell? ⟨w.heap.size, 1, none⟩ = some (.int .i64 st0) := keepc hb' c27_a0_1
  clear c27_a0_1 ac27_a0_1
  have c28_a0_2 : w28.cell? ⟨w.heap.size, 2, none⟩ = some (.slice A0 n0 c0) := keepc hb' c27_a0_2
  clear c27_a0_2 ac27_a0_2
  have c28_a1_0 : w28.cell? ⟨(w.heap.size + 1), 0, none⟩ = some (.int .i64 st1) := keepc hb' c27_a1_0
  clear c27_a1_0 ac27_a1_0
  have c28_a1_1 : w28.cell? ⟨(w.heap.size + 1), 1, none⟩ = some (.slice A1 n1 c1) := keepc hb' c27_a1_1
  clear c27_a1_1 ac27_a1_1
  have c28_a2_0 : w28.cell? ⟨(w.heap.size + 1 + 1), 0, none⟩ = some (.int .i64 st2) := keepc hb' c27_a2_0
  clear c27_a2_0 ac27_a2_0
  have c28_a2_1 : w28.cell? ⟨(w.heap.size + 1 + 1), 1, none⟩ = some (.slice A2 n2 c2) := keepc hb' c27_a2_1
  clear c27_a2_1 ac27_a2_1
  have c28_o25_0 : w28.cell? ⟨w8.heap.size, 0, none⟩ = some (.int .i64 sy0) := keepc hb' c27_o25_0
  clear c27_o25_0 ac27_o25_0
  have c28_o25_1 : w28.cell? ⟨w8.heap.size, 1, none⟩ = some (.int .i64 st0) := keepc hb' c27_o25_1
  clear c27_o25_1 ac27_o25_1
  have c28_o25_2 : w28.cell? ⟨w8.heap.size, 2, none⟩ = some (.slice (some ⟨g024, 0, none⟩) n0 n0) := keepc hb' c27_o25_2
  clear c27_o25_2 ac27_o25_2
  have c28_o27_0 : w28.cell? ⟨w9.heap.size, 0, none⟩ = some (.int .i64 st1) := keepc hb' c27_o27_0
  clear c27_o27_0 ac27_o27_0
  have c28_o27_1 : w28.cell? ⟨w9.heap.size, 1, none⟩ = some (.slice (some ⟨g26, 0, none⟩) n1 n1) := keepc hb' c27_o27_1
  clear c27_o27_1 ac27_o27_1
  have c28_o29_0 : w28.cell? ⟨w10.heap.size, 0, none⟩ = some (.int .i64 st2) := keepc hb' c27_o29_0
  clear c27_o29_0 ac27_o29_0
  have c28_o29_1 : w28.cell? ⟨w10.heap.size, 1, none⟩ = some (.slice (some ⟨g28, 0, none⟩) n2 n2) := keepc hb' c27_o29_1
  clear c27_o29_1 ac27_o29_1
  have ac28_a0_0 := fun o => keepa o c28_a0_0
  have ac28_a0_1 := fun o => keepa o c28_a0_1
  have ac28_a0_2 := fun o => keepa o c28_a0_2
  have ac28_a1_0 := fun o => keepa o c28_a1_0
  have ac28_a1_1 := fun o => keepa o c28_a1_1
  have ac28_a2_0 := fun o => keepa o c28_a2_0
  have ac28_a2_1 := fun o => keepa o c28_a2_1
  have ac28_o25_0 := fun o => keepa o c28_o25_0
  have ac28_o25_1 := fun o => keepa o c28_o25_1
  have ac28_o25_2 := fun o => keepa o c28_o25_2
  have ac28_o27_0 := fun o => keepa o c28_o27_0
  have ac28_o27_1 := fun o => keepa o c28_o27_1
  have ac28_o29_0 := fun o => keepa o c28_o29_0
  have ac28_o29_1 := fun o => keepa o c28_o29_1
  have rP0 := P0.out.below hb'; clear P0; have P0 := Lib.hid rP0; clear rP0
  have rP1 := P1.out.below hb'; clear P1; have P1 := Lib.hid rP1; clear rP1
  have rP2 := P2.out.below hb'; clear P2; have P2 := Lib.hid rP2; clear rP2
  have rFo23 := Fo23.out.below hb'; clear Fo23; have Fo23 := Lib.hid rFo23; clear rFo23
  have rFo25 := Fo25.out.below hb'; clear Fo25; have Fo25 := Lib.hid rFo25; clear rFo25
  have rFo27 := Fo27.out.below hb'; clear Fo27; have Fo27 := Lib.hid rFo27; clear rFo27
  have rFo29 := Fo29.out.below hb'; clear Fo29; have Fo29 := Lib.hid rFo29; clear rFo29
  have rFo36 := Fo36.out.below hb'; clear Fo36; have Fo36 := Lib.hid rFo36; clear rFo36
  have rFo44 := Fo44.out.below hb'; clear Fo44; have Fo44 := Lib.hid rFo44; clear rFo44
  have rFo46 := Fo46.out.below hb'; clear Fo46; have Fo46 := Lib.hid rFo46; clear rFo46
  have rFo48 := Fo48.out.below hb'; clear Fo48; have Fo48 := Lib.hid rFo48; clear rFo48
  have rB := below_chain B.out (by omega) hb'; clear B; have B := Lib.hid rB; clear rB
  have Fo55 := Lib.hid q53; clear q53
  obtain ⟨ln_o55, bI0_o55, hs0_o55, bm0_o55⟩ := l54
  have hI0_o55 := (fun t ht => Nat.le_trans (bI0_o55 t ht) (by omega) : ∀ t ∈ its52, t.n ≤ 1000000000); have hm0_o55 := Lib.hid bm0_o55; clear bI0_o55 bm0_o55
  have em28 : Below w24.heap.size w24 w28 := below_chain em27 (by omega) hb'
  clear hb hb'
  go_wp2_with fail
  refine hK _ _ ⟨⟨_, em28⟩, rfl⟩ ?_
  clear hK K
  repeat (first | (refine Mix.wpMix_read (by rfl) ?_; go_big_quiet_step (fail); refine wpQuiet_nil ?_) | (refine Mix.wpMix_pure (by rfl) ?_; go_big_quiet_step (fail); refine wpQuiet_nil ?_))
  (refine Mix.wpMix_nil ?_; try simp only [Exit.then])
  clear fx_c24_a0_0
  clear fx_c24_a0_1
  clear fx_c24_a0_2
  clear fx_c24_a1_0
  clear fx_c24_a1_1
  clear fx_c24_a2_0
  clear fx_c24_a2_1
  clear fx_c24_o25_0
  clear fx_c24_o25_1
  clear fx_c24_o25_2
  clear fx_c24_o27_0
  clear fx_c24_o27_1
  clear fx_c24_o29_0
  clear fx_c24_o29_1
  clear Fo44
  clear Fo46
  clear Fo48
  go_wp2_with fail
  refine (eqInt64SS_t _ _ _ _ _ _ _ _ _ (by exact (Fo55.out.rd)) (by exact (Fo23.out.rd)) (by omega) hI0_o55 (hm0_o55.out.trans hm0_o23.out.symm)).mono ?_
  rintro e w29 ⟨rfl, hb⟩
  have hb' : Below w28.heap.size w28 w29 := (by first | (with_reducible exact hb) | (with_reducible exact up1 hb) | (with_reducible exact up2 hb) | (with_reducible exact up3 hb) | (with_reducible exact up4 hb) | (with_reducible exact below_of_drew hb) | (with_reducible exact below_of_drew (up1 hb)))
  have z29 := hb'.size
  have c29_a0_0 : w29.cell? ⟨w.heap.size, 0, none⟩ = some (.int .i64 sy0) := keepc hb' c28_a0_0
  clear c28_a0_0 ac28_a0_0
  have c29_a0_1 : w29.cell? ⟨w.heap.size, 1, none⟩ = some (.int .i64 st0) := keepc hb' c28_a0_1
  clear c28_a0_1 ac28_a0_1
  have c29_a0_2 : w29.cell? ⟨w.heap.size, 2, none⟩ = some (.slice A0 n0 c0) := keepc hb' c28_a0_2
  clear c28_a0_2 ac28_a0_2
  have c29_a1_0 : w29.cell? ⟨(w.heap.size + 1), 0, none⟩ = some (.int .i64 st1) := keepc hb' c28_a1_0
  clear c28_a1_0 ac28_a1_0
  have c29_a1_1 : w29.cell? ⟨(w.heap.size + 1), 1, none⟩ = some (.slice A1 n1 c1) := keepc hb' c28_a1_1
  clear c28_a1_1 ac28_a1_1
  have c29_a2_0 : w29.cell? ⟨(w.heap.size + 1 + 1), 0, none⟩ = some (.int .i64 st2) := keepc hb' c28_a2_0
  clear c28_a2_0 ac28_a2_0
  have c29_a2_1 : w29.cell? ⟨(w.heap.size + 1 + 1), 1, none⟩ = some (.slice A2 n2 c2) := keepc hb' c28_a2_1
  clear c28_a2_1 ac28_a2_1
  have c29_o25_0 : w29.cell? ⟨w8.heap.size, 0, none⟩ = some (.int .i64 sy0) := keepc hb' c28_o25_0
  clear c28_o25_0 ac28_o25_0
  have c29_o25_1 : w29.cell? ⟨w8.heap.size, 1, none⟩ = some (.int .i64 st0) := keepc hb' c28_o25_1
  clear c28_o25_1 ac28_o25_1
  have c29_o25_2 : w29.cell? ⟨w8.heap.size, 2, none⟩ = some (.slice (some ⟨g024, 0, none⟩) n0 n0) := keepc hb' c28_o25_2
  clear c28_o25_2 ac28_o25_2
  have c29_o27_0 : w29.cell? ⟨w9.heap.size, 0, none⟩ = some (.int .i64 st1) := keepc hb' c28_o27_0
  clear c28_o27_0 ac28_o27_0
  have c29_o27_1 : w29.cell? ⟨w9.heap.size, 1, none⟩ = some (.slice (some ⟨g26, 0, none⟩) n1 n1) := keepc hb' c28_o27_1
  clear c28_o27_1 ac28_o27_1
  have c29_o29_0 : w29.cell? ⟨w10.heap.size, 0, none⟩ = some (.int .i64 st2) := keepc hb' c28_o29_0
  clear c28_o29_0 ac28_o29_0
  have c29_o29_1 : w29.cell? ⟨w10.heap.size, 1, none⟩ = some (.slice (some ⟨g28, 0, none⟩) n2 n2) := keepc hb' c28_o29_1
  clear c28_o29_1 ac28_o29_1
  have ac29_a0_0 := fun o => keepa o c29_a0_0
  have ac29_a0_1 := fun o => keepa o c29_a0_1
  have ac29_a0_2 := fun o => keepa o c29_a0_2
  have ac29_a1_0 := fun o => keepa o c29_a1_0
  have ac29_a1_1 := fun o => keepa o c29_a1_1
  have ac29_a2_0 := fun o => keepa o c29_a2_0
  have ac29_a2_1 := fun o => keepa o c29_a2_1
  have ac29_o25_0 := fun o => keepa o c29_o25_0
  have ac29_o25_1 := fun o => keepa o c29_o25_1
  have ac29_o25_2 := fun o => keepa o c29_o25_2
  have ac29_o27_0 := fun o => keepa o c29_o27_0
  have ac29_o27_1 := fun o => keepa o c29_o27_1
  have ac29_o29_0 := fun o => keepa o c29_o29_0
  have ac29_o29_1 := fun o => keepa o c29_o29_1
  have rP0 := P0.out.below hb'; clear P0; have P0 := Lib.hid rP0; clear rP0
  have rP1 := P1.out.below hb'; clear P1; have P1 := Lib.hid rP1; clear rP1
  have rP2 := P2.out.below hb'; clear P2; have P2 := Lib.hid rP2; clear rP2
  have rFo23 := Fo23.out.below hb'; clear Fo23; have Fo23 := Lib.hid rFo23; clear rFo23
  have rFo25 := Fo25.out.below hb'; clear Fo25; have Fo25 := Lib.hid rFo25; clear rFo25
  have rFo27 := Fo27.out.below hb'; clear Fo27; have Fo27 := Lib.hid rFo27; clear rFo27
  have rFo29 := Fo29.out.below hb'; clear Fo29; have Fo29 := Lib.hid rFo29; clear rFo29
  have rFo36 := Fo36.out.below hb'; clear Fo36; have Fo36 := Lib.hid rFo36; clear rFo36
  have rFo55 := Fo55.out.below hb'; clear Fo55; have Fo55 := Lib.hid rFo55; clear rFo55
  have rB := below_chain B.out (by omega) hb'; clear B; have B := Lib.hid rB; clear rB
  clear hb hb'
  go_wp2_with fail
  refine (heldInt64SS_c _ _ _ _ _ _ (by exact (Fo36.out.rd)) (by omega) hI0_o36 (by omega) (by omega) (by omega)).mono ?_
  rintro e w30 ⟨rfl, hb⟩
  have hb' : Below w29.heap.size w29 w30 := (by first | (with_reducible exact hb) | (with_reducible exact up1 hb) | (with_reducible exact up2 hb) | (with_reducible exact up3 hb) | (with_reducible exact up4 hb) | (with_reducible exact below_of_drew hb) | (with_reducible exact below_of_drew (up1 hb)))
  have z30 := hb'.size
  have c30_a0_0 : w30.cell? ⟨w.heap.size, 0, none⟩ = some (.int .i64 sy0) := keepc hb' c29_a0_0
  clear c29_a0_0 ac29_a0_0
  have c30_a0_1 : w30.cell? ⟨w.heap.size, 1, none⟩ = some (.int .i64 st0) := keepc hb' c29_a0_1
  clear c29_a0_1 ac29_a0_1
  have c30_a0_2 : w30.cell? ⟨w.heap.size, 2, none⟩ = some (.slice A0 n0 c0) := keepc hb' c29_a0_2
  clear c29_a0_2 ac29_a0_2
  have c30_a1_0 : w30.cell? ⟨(w.heap.size + 1), 0, none⟩ = some (.int .i64 st1) := keepc hb' c29_a1_0
  clear c29_a1_0 ac29_a1_0
  have c30_a1_1 : w30.cell? ⟨(w.heap.size + 1), 1, none⟩ = some (.slice A1 n1 c1) := keepc hb' c29_a1_1
  clear c29_a1_1 ac29_a1_1
  have c30_a2_0 : w30.cell? ⟨(w.heap.size + 1 + 1), 0, none⟩ = some (.int .i64 st2) := keepc hb' c29_a2_0
  clear c29_a2_0 ac29_a2_0
  have c30_a2_1 : w30.cell? ⟨(w.heap.size + 1 + 1), 1, none⟩ = some (.slice A2 n2 c2) := keepc hb' c29_a2_1
  clear c29_a2_1 ac29_a2_1
  have c30_o25_0 : w30.cell? ⟨w8.heap.size, 0, none⟩ = some (.int .i64 sy0) := keepc hb' c29_o25_0
  clear c29_o25_0 ac29_o25_0
  have c30_o25_1 : w30.cell? ⟨w8.heap.size, 1, none⟩ = some (.int .i64 st0) := keepc hb' c29_o25_1
  clear c29_o25_1 ac29_o25_1
  have c30_o25_2 : w30.cell? ⟨w8.heap.size, 2, none⟩ = some (.slice (some ⟨g024, 0, none⟩) n0 n0) := keepc hb' c29_o25_2
  clear c29_o25_2 ac29_o25_2
  have c30_o27_0 : w30.cell? ⟨w9.heap.size, 0, none⟩ = some (.int .i64 st1) := keepc hb' c29_o27_0
  clear c29_o27_0 ac29_o27_0
  have c30_o27_1 : w30.cell? ⟨w9.heap.size, 1, none⟩ = some (.slice (some ⟨g26, 0, none⟩) n1 n1) := keepc hb' c29_o27_1
  clear c29_o27_1 ac29_o27_1
  have c30_o29_0 : w30.cell? ⟨w10.heap.size, 0, none⟩ = some (.int .i64 st2) := keepc hb' c29_o29_0
  clear c29_o29_0 ac29_o29_0
  have c30_o29_1 : w30.cell? ⟨w10.heap.size, 1, none⟩ = some (.slice (some ⟨g28, 0, none⟩) n2 n2) := keepc hb' c29_o29_1
  clear c29_o29_1 ac29_o29_1
  have ac30_a0_0 := fun o => keepa o c30_a0_0
  have ac30_a0_1 := fun o => keepa o c30_a0_1
  have ac30_a0_2 := fun o => keepa o c30_a0_2
  have ac30_a1_0 := fun o => keepa o c30_a1_0
  have ac30_a1_1 := fun o => keepa o c30_a1_1
  have ac30_a2_0 := fun o => keepa o c30_a2_0
  have ac30_a2_1 := fun o => keepa o c30_a2_1
  have ac30_o25_0 := fun o => keepa o c30_o25_0
  have ac30_o25_1 := fun o => keepa o c30_o25_1
  have ac30_o25_2 := fun o => keepa o c30_o25_2
  have ac30_o27_0 := fun o => keepa o c30_o27_0
  have ac30_o27_1 := fun o => keepa o c30_o27_1
  have ac30_o29_0 := fun o => keepa o c30_o29_0
  have ac30_o29_1 := fun o => keepa o c30_o29_1
  have rP0 := P0.out.below hb'; clear P0; have P0 := Lib.hid rP0; clear rP0
  have rP1 := P1.out.below hb'; clear P1; have P1 := Lib.hid rP1; clear rP1
  have rP2 := P2.out.below hb'; clear P2; have P2 := Lib.hid rP2; clear rP2
  have rFo23 := Fo23.out.below hb'; clear Fo23; have Fo23 := Lib.hid rFo23; clear rFo23
  have rFo25 := Fo25.out.below hb'; clear Fo25; have Fo25 := Lib.hid rFo25; clear rFo25
  have rFo27 := Fo27.out.below hb'; clear Fo27; have Fo27 := Lib.hid rFo27; clear rFo27
  have rFo29 := Fo29.out.below hb'; clear Fo29; have Fo29 := Lib.hid rFo29; clear rFo29
  have rFo36 := Fo36.out.below hb'; clear Fo36; have Fo36 := Lib.hid rFo36; clear rFo36
  have rFo55 := Fo55.out.below hb'; clear Fo55; have Fo55 := Lib.hid rFo55; clear rFo55
  have rB := below_chain B.out (by omega) hb'; clear B; have B := Lib.hid rB; clear rB
  clear hb hb'
  go_wp2
  go_ret
  exact ⟨rfl, B.out⟩
end Go.Proofs.Ytmmgejnhfpfmnaa
