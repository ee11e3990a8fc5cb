/-
  FnExactFormulaText returns true for every input: its walk, out of the contracts.
-/
import Derived.Test.YtfbmjlohdhogmaaDoorLawMachine
import Derived.Test.YtfbmjlohdhogmaaDoorLawFormula
import Derived.Test.YtfbmjlohdhogmaaDoorCTf
import Derived.Test.YtfbmjlohdhogmaaDoorOpen
namespace Go.Proofs.YtfbmjlohdhogmaaDoor
open Go.RowKit

set_option maxHeartbeats 4000000 in
set_option maxRecDepth 100000 in
theorem walkFormulaText (sy0 : Int) (st0 : Int) (A0 : Option Addr) (n0 : Nat) (c0 : Nat) (xs0 : List (Int × Int × Int)) (st1 : Int) (hd1 : Int) (at1 : Int) (A1 : Option Addr) (n1 : Nat) (c1 : Nat) (its1 : List It) (B1 : Option Addr) (m1 : Nat) (d1 : Nat) (jts1 : List It) (C1 : Option Addr) (k1 : Nat) (e1 : Nat) (xs1 : List Int) (w : World) (h0 : RdS w [sgX enc3 3 A0 n0 xs0]) (hb0_0 : n0 ≤ 9223372036854775807) (_o0 : i64ok sy0) (_p0 : i64ok st0) (_oo0 : ∀ x ∈ xs0, i64ok x.1 ∧ i64ok x.2.1 ∧ i64ok x.2.2) (h1 : RdS w (sgII A1 n1 its1 ++ sgII B1 m1 jts1 ++ [sgI C1 k1 xs1])) (hb1_0 : n1 ≤ 9223372036854775807) (hb1_1 : m1 ≤ 9223372036854775807) (hb1_2 : k1 ≤ 9223372036854775807) (hj1_0 : ∀ t ∈ its1, t.n ≤ 9223372036854775807) (hj1_1 : ∀ t ∈ jts1, t.n ≤ 9223372036854775807) (_o1 : i64ok st1) (_p1 : i64ok hd1) (_q1 : i64ok at1) (_oo1 : ∀ x ∈ xs1, i64ok x) (hT : Tab w) :
    Calls Tryd.prog 6 #[.agg #[.int .i64 sy0, .int .i64 st0, .slice A0 n0 c0], .agg #[.int .i64 st1, .int .i64 hd1, .int .i64 at1, .slice A1 n1 c1, .slice B1 m1 d1, .slice C1 k1 e1]] w fun e w' => e = .returned (.bool true) ∧ Below w.heap.size w w' := by
  have P0 := Lib.hid (RdSU.mk' h0); clear h0
  have P1 := Lib.hid (RdSU.mk' h1); clear h1
  have HTB := Lib.hid hT; clear hT
  go_enter Tryd.func6, Tryd.ntmps6
  go_wp2_with fail
  refine (szMachine_c _ _ _ _ _ xs0 _ _ hb0_0 (by omega) (by omega)).mono ?_
  rintro e w1 ⟨rfl, hb⟩
  have hb' : Below w.heap.size w w1 := (by first | (with_reducible exact hb) | (with_reducible exact up1 hb) | (with_reducible exact up2 hb) | (with_reducible exact up3 hb) | (with_reducible exact up4 hb) | (with_reducible exact below_of_drew hb) | (with_reducible exact below_of_drew (up1 hb)))
  have z1 := hb'.size
  have c1_a0_0 : w1.cell? ⟨w.heap.size, 0, none⟩ = some (.int .i64 sy0) := keepc hb (by first | (simp; done) | (rw [World.cell?_alloc_past _ _ _ (by simp <;> omega)]; simp; done) | (rw [World.cell?_alloc_past _ _ _ (by simp <;> omega), World.cell?_alloc_past _ _ _ (by simp <;> omega)]; simp; done) | (rw [World.cell?_alloc_past _ _ _ (by simp <;> omega), World.cell?_alloc_past _ _ _ (by simp <;> omega), World.cell?_alloc_past _ _ _ (by simp <;> omega)]; simp; done) | (rw [World.cell?_alloc_at _ _ _ _ (by simp)]; simp; done) | (rw [World.cell?_alloc_past _ _ _ (by simp <;> omega), World.cell?_alloc_at _ _ _ _ (by simp)]; simp; done) | (rw [World.cell?_alloc_past _ _ _ (by simp <;> omega), World.cell?_alloc_past _ _ _ (by simp <;> omega), World.cell?_alloc_at _ _ _ _ (by simp)]; simp; done) | (rw [World.cell?_alloc_past _ _ _ (by simp <;> omega), World.cell?_alloc_past _ _ _ (by simp <;> omega), World.cell?_alloc_past _ _ _ (by simp <;> omega), World.cell?_alloc_at _ _ _ _ (by simp)]; simp; done))
  have hl_c1_a0_0 : w.heap.size < w1.heap.size := World.block_lt_of_cell? w1 _ c1_a0_0
  have c1_a0_1 : w1.cell? ⟨w.heap.size, 1, none⟩ = some (.int .i64 st0) := keepc hb (by first | (simp; done) | (rw [World.cell?_alloc_past _ _ _ (by simp <;> omega)]; simp; done) | (rw [World.cell?_alloc_past _ _ _ (by simp <;> omega), World.cell?_alloc_past _ _ _ (by simp <;> omega)]; simp; done) | (rw [World.cell?_alloc_past _ _ _ (by simp <;> omega), World.cell?_alloc_past _ _ _ (by simp <;> omega), World.cell?_alloc_past _ _ _ (by simp <;> omega)]; simp; done) | (rw [World.cell?_alloc_at _ _ _ _ (by simp)]; simp; done) | (rw [World.cell?_alloc_past _ _ _ (by simp <;> omega), World.cell?_alloc_at _ _ _ _ (by simp)]; simp; done) | (rw [World.cell?_alloc_past _ _ _ (by simp <;> omega), World.cell?_alloc_past _ _ _ (by simp <;> omega), World.cell?_alloc_at _ _ _ _ (by simp)]; simp; done) | (rw [World.cell?_alloc_past _ _ _ (by simp <;> omega), World.cell?_alloc_past _ _ _ (by simp <;> omega), World.cell?_alloc_past _ _ _ (by simp <;> omega), World.cell?_alloc_at _ _ _ _ (by simp)]; simp; done))
  have c1_a0_2 : w1.cell? ⟨w.heap.size, 2, none⟩ = some (.slice A0 n0 c0) := keepc hb (by first | (simp; done) | (rw [World.cell?_alloc_past _ _ _ (by simp <;> omega)]; simp; done) | (rw [World.cell?_alloc_past _ _ _ (by simp <;> omega), World.cell?_alloc_past _ _ _ (by simp <;> omega)]; simp; done) | (rw [World.cell?_alloc_past _ _ _ (by simp <;> omega), World.cell?_alloc_past _ _ _ (by simp <;> omega), World.cell?_alloc_past _ _ _ (by simp <;> omega)]; simp; done) | (rw [World.cell?_alloc_at _ _ _ _ (by simp)]; simp; done) | (rw [World.cell?_alloc_past _ _ _ (by simp <;> omega), World.cell?_alloc_at _ _ _ _ (by simp)]; simp; done) | (rw [World.cell?_alloc_past _ _ _ (by simp <;> omega), World.cell?_alloc_past _ _ _ (by simp <;> omega), World.cell?_alloc_at _ _ _ _ (by simp)]; simp; done) | (rw [World.cell?_alloc_past _ _ _ (by simp <;> omega), World.cell?_alloc_past _ _ _ (by simp <;> omega), World.cell?_alloc_past _ _ _ (by simp <;> omega), World.cell?_alloc_at _ _ _ _ (by simp)]; simp; done))
  have c1_a1_0 : w1.cell? ⟨(w.heap.size + 1), 0, none⟩ = some (.int .i64 st1) := keepc hb (by first | (simp; done) | (rw [World.cell?_alloc_past _ _ _ (by simp <;> omega)]; simp; done) | (rw [World.cell?_alloc_past _ _ _ (by simp <;> omega), World.cell?_alloc_past _ _ _ (by simp <;> omega)]; simp; done) | (rw [World.cell?_alloc_past _ _ _ (by simp <;> omega), World.cell?_alloc_past _ _ _ (by simp <;> omega), World.cell?_alloc_past _ _ _ (by simp <;> omega)]; simp; done) | (rw [World.cell?_alloc_at _ _ _ _ (by simp)]; simp; done) | (rw [World.cell?_alloc_past _ _ _ (by simp <;> omega), World.cell?_alloc_at _ _ _ _ (by simp)]; simp; done) | (rw [World.cell?_alloc_past _ _ _ (by simp <;> omega), World.cell?_alloc_past _ _ _ (by simp <;> omega), World.cell?_alloc_at _ _ _ _ (by simp)]; simp; done) | (rw [World.cell?_alloc_past _ _ _ (by simp <;> omega), World.cell?_alloc_past _ _ _ (by simp <;> omega), World.cell?_alloc_past _ _ _ (by simp <;> omega), World.cell?_alloc_at _ _ _ _ (by simp)]; simp; done))
  have hl_c1_a1_0 : (w.heap.size + 1) < w1.heap.size := World.block_lt_of_cell? w1 _ c1_a1_0
  have c1_a1_1 : w1.cell? ⟨(w.heap.size + 1), 1, none⟩ = some (.int .i64 hd1) := keepc hb (by first | (simp; done) | (rw [World.cell?_alloc_past _ _ _ (by simp <;> omega)]; simp; done) | (rw [World.cell?_alloc_past _ _ _ (by simp <;> omega), World.cell?_alloc_past _ _ _ (by simp <;> omega)]; simp; done) | (rw [World.cell?_alloc_past _ _ _ (by simp <;> omega), World.cell?_alloc_past _ _ _ (by simp <;> omega), World.cell?_alloc_past _ _ _ (by simp <;> omega)]; simp; done) | (rw [World.cell?_alloc_at _ _ _ _ (by simp)]; simp; done) | (rw [World.cell?_alloc_past _ _ _ (by simp <;> omega), World.cell?_alloc_at _ _ _ _ (by simp)]; simp; done) | (rw [World.cell?_alloc_past _ _ _ (by simp <;> omega), World.cell?_alloc_past _ _ _ (by simp <;> omega), World.cell?_alloc_at _ _ _ _ (by simp)]; simp; done) | (rw [World.cell?_alloc_past _ _ _ (by simp <;> omega), World.cell?_alloc_past _ _ _ (by simp <;> omega), World.cell?_alloc_past _ _ _ (by simp <;> omega), World.cell?_alloc_at _ _ _ _ (by simp)]; simp; done))
  have c1_a1_2 : w1.cell? ⟨(w.heap.size + 1), 2, none⟩ = some (.int .i64 at1) := keepc hb (by first | (simp; done) | (rw [World.cell?_alloc_past _ _ _ (by simp <;> omega)]; simp; done) | (rw [World.cell?_alloc_past _ _ _ (by simp <;> omega), World.cell?_alloc_past _ _ _ (by simp <;> omega)]; simp; done) | (rw [World.cell?_alloc_past _ _ _ (by simp <;> omega), World.cell?_alloc_past _ _ _ (by simp <;> omega), World.cell?_alloc_past _ _ _ (by simp <;> omega)]; simp; done) | (rw [World.cell?_alloc_at _ _ _ _ (by simp)]; simp; done) | (rw [World.cell?_alloc_past _ _ _ (by simp <;> omega), World.cell?_alloc_at _ _ _ _ (by simp)]; simp; done) | (rw [World.cell?_alloc_past _ _ _ (by simp <;> omega), World.cell?_alloc_past _ _ _ (by simp <;> omega), World.cell?_alloc_at _ _ _ _ (by simp)]; simp; done) | (rw [World.cell?_alloc_past _ _ _ (by simp <;> omega), World.cell?_alloc_past _ _ _ (by simp <;> omega), World.cell?_alloc_past _ _ _ (by simp <;> omega), World.cell?_alloc_at _ _ _ _ (by simp)]; simp; done))
  have c1_a1_3 : w1.cell? ⟨(w.heap.size + 1), 3, none⟩ = some (.slice A1 n1 c1) := keepc hb (by first | (simp; done) | (rw [World.cell?_alloc_past _ _ _ (by simp <;> omega)]; simp; done) | (rw [World.cell?_alloc_past _ _ _ (by simp <;> omega), World.cell?_alloc_past _ _ _ (by simp <;> omega)]; simp; done) | (rw [World.cell?_alloc_past _ _ _ (by simp <;> omega), World.cell?_alloc_past _ _ _ (by simp <;> omega), World.cell?_alloc_past _ _ _ (by simp <;> omega)]; simp; done) | (rw [World.cell?_alloc_at _ _ _ _ (by simp)]; simp; done) | (rw [World.cell?_alloc_past _ _ _ (by simp <;> omega), World.cell?_alloc_at _ _ _ _ (by simp)]; simp; done) | (rw [World.cell?_alloc_past _ _ _ (by simp <;> omega), World.cell?_alloc_past _ _ _ (by simp <;> omega), World.cell?_alloc_at _ _ _ _ (by simp)]; simp; done) | (rw [World.cell?_alloc_past _ _ _ (by simp <;> omega), World.cell?_alloc_past _ _ _ (by simp <;> omega), World.cell?_alloc_past _ _ _ (by simp <;> omega), World.cell?_alloc_at _ _ _ _ (by simp)]; simp; done))
  have c1_a1_4 : w1.cell? ⟨(w.heap.size + 1), 4, none⟩ = some (.slice B1 m1 d1) := keepc hb (by first | (simp; done) | (rw [World.cell?_alloc_past _ _ _ (by simp <;> omega)]; simp; done) | (rw [World.cell?_alloc_past _ _ _ (by simp <;> omega), World.cell?_alloc_past _ _ _ (by simp <;> omega)]; simp; done) | (rw [World.cell?_alloc_past _ _ _ (by simp <;> omega), World.cell?_alloc_past _ _ _ (by simp <;> omega), World.cell?_alloc_past _ _ _ (by simp <;> omega)]; simp; done) | (rw [World.cell?_alloc_at _ _ _ _ (by simp)]; simp; done) | (rw [World.cell?_alloc_past _ _ _ (by simp <;> omega), World.cell?_alloc_at _ _ _ _ (by simp)]; simp; done) | (rw [World.cell?_alloc_past _ _ _ (by simp <;> omega), World.cell?_alloc_past _ _ _ (by simp <;> omega), World.cell?_alloc_at _ _ _ _ (by simp)]; simp; done) | (rw [World.cell?_alloc_past _ _ _ (by simp <;> omega), World.cell?_alloc_past _ _ _ (by simp <;> omega), World.cell?_alloc_past _ _ _ (by simp <;> omega), World.cell?_alloc_at _ _ _ _ (by simp)]; simp; done))
  have c1_a1_5 : w1.cell? ⟨(w.heap.size + 1), 5, none⟩ = some (.slice C1 k1 e1) := keepc hb (by first | (simp; done) | (rw [World.cell?_alloc_past _ _ _ (by simp <;> omega)]; simp; done) | (rw [World.cell?_alloc_past _ _ _ (by simp <;> omega), World.cell?_alloc_past _ _ _ (by simp <;> omega)]; simp; done) | (rw [World.cell?_alloc_past _ _ _ (by simp <;> omega), World.cell?_alloc_past _ _ _ (by simp <;> omega), World.cell?_alloc_past _ _ _ (by simp <;> omega)]; simp; done) | (rw [World.cell?_alloc_at _ _ _ _ (by simp)]; simp; done) | (rw [World.cell?_alloc_past _ _ _ (by simp <;> omega), World.cell?_alloc_at _ _ _ _ (by simp)]; simp; done) | (rw [World.cell?_alloc_past _ _ _ (by simp <;> omega), World.cell?_alloc_past _ _ _ (by simp <;> omega), World.cell?_alloc_at _ _ _ _ (by simp)]; simp; done) | (rw [World.cell?_alloc_past _ _ _ (by simp <;> omega), World.cell?_alloc_past _ _ _ (by simp <;> omega), World.cell?_alloc_past _ _ _ (by simp <;> omega), World.cell?_alloc_at _ _ _ _ (by simp)]; simp; done))
  have ac1_a0_0 := fun o => keepa o c1_a0_0
  have ac1_a0_1 := fun o => keepa o c1_a0_1
  have ac1_a0_2 := fun o => keepa o c1_a0_2
  have ac1_a1_0 := fun o => keepa o c1_a1_0
  have ac1_a1_1 := fun o => keepa o c1_a1_1
  have ac1_a1_2 := fun o => keepa o c1_a1_2
  have ac1_a1_3 := fun o => keepa o c1_a1_3
  have ac1_a1_4 := fun o => keepa o c1_a1_4
  have ac1_a1_5 := fun o => keepa o c1_a1_5
  have rP0 := P0.out.below hb'; clear P0; have P0 := Lib.hid rP0; clear rP0
  have rP1 := P1.out.below hb'; clear P1; have P1 := Lib.hid rP1; clear rP1
  have rB := hb'; have B := Lib.hid rB; clear rB
  clear hb hb'
  by_cases hs1 : 1048576 < n0
  · rw [szOf_neg' (by omega)]
    go_wp2
    go_ret
    exact ⟨rfl, B.out⟩
  rw [szOf_pos' (by omega)]
  have hs1' : (0 : Int) ≤ 1048576 - (n0 : Nat) := by omega
  go_wp2_with fail
  refine (szFormula_c _ _ _ _ _ _ its1 _ _ _ jts1 _ _ _ xs1 _ _ (by exact (P1.out.rd)) hb1_0 hb1_1 hb1_2 hj1_0 hj1_1 (by omega) (by omega)).mono ?_
  rintro e w2 ⟨rfl, hb⟩
  have hb' : Below w1.heap.size w1 w2 := (by first | (with_reducible exact hb) | (with_reducible exact up1 hb) | (with_reducible exact up2 hb) | (with_reducible exact up3 hb) | (with_reducible exact up4 hb) | (with_reducible exact below_of_drew hb) | (with_reducible exact below_of_drew (up1 hb)))
  have z2 := hb'.size
  have c2_a0_0 : w2.cell? ⟨w.heap.size, 0, none⟩ = some (.int .i64 sy0) := keepc hb' c1_a0_0
  clear c1_a0_0 ac1_a0_0
  have c2_a0_1 : w2.cell? ⟨w.heap.size, 1, none⟩ = some (.int .i64 st0) := keepc hb' c1_a0_1
  clear c1_a0_1 ac1_a0_1
  have c2_a0_2 : w2.cell? ⟨w.heap.size, 2, none⟩ = some (.slice A0 n0 c0) := keepc hb' c1_a0_2
  clear c1_a0_2 ac1_a0_2
  have c2_a1_0 : w2.cell? ⟨(w.heap.size + 1), 0, none⟩ = some (.int .i64 st1) := keepc hb' c1_a1_0
  clear c1_a1_0 ac1_a1_0
  have c2_a1_1 : w2.cell? ⟨(w.heap.size + 1), 1, none⟩ = some (.int .i64 hd1) := keepc hb' c1_a1_1
  clear c1_a1_1 ac1_a1_1
  have c2_a1_2 : w2.cell? ⟨(w.heap.size + 1), 2, none⟩ = some (.int .i64 at1) := keepc hb' c1_a1_2
  clear c1_a1_2 ac1_a1_2
  have c2_a1_3 : w2.cell? ⟨(w.heap.size + 1), 3, none⟩ = some (.slice A1 n1 c1) := keepc hb' c1_a1_3
  clear c1_a1_3 ac1_a1_3
  have c2_a1_4 : w2.cell? ⟨(w.heap.size + 1), 4, none⟩ = some (.slice B1 m1 d1) := keepc hb' c1_a1_4
  clear c1_a1_4 ac1_a1_4
  have c2_a1_5 : w2.cell? ⟨(w.heap.size + 1), 5, none⟩ = some (.slice C1 k1 e1) := keepc hb' c1_a1_5
  clear c1_a1_5 ac1_a1_5
  have ac2_a0_0 := fun o => keepa o c2_a0_0
  have ac2_a0_1 := fun o => keepa o c2_a0_1
  have ac2_a0_2 := fun o => keepa o c2_a0_2
  have ac2_a1_0 := fun o => keepa o c2_a1_0
  have ac2_a1_1 := fun o => keepa o c2_a1_1
  have ac2_a1_2 := fun o => keepa o c2_a1_2
  have ac2_a1_3 := fun o => keepa o c2_a1_3
  have ac2_a1_4 := fun o => keepa o c2_a1_4
  have ac2_a1_5 := fun o => keepa o c2_a1_5
  have rP0 := P0.out.below hb'; clear P0; have P0 := Lib.hid rP0; clear rP0
  have rP1 := P1.out.below hb'; clear P1; have P1 := Lib.hid rP1; clear rP1
  have rB := below_chain B.out (by omega) hb'; clear B; have B := Lib.hid rB; clear rB
  clear hb hb'
  by_cases hs2 : 1048576 - (n0 : Nat) < (n1 + sumN its1 + (m1 + sumN jts1) + k1)
  · rw [szOf_neg' (by omega)]
    go_wp2
    go_ret
    exact ⟨rfl, B.out⟩
  rw [szOf_pos' (by omega)]
  have hs2' : (0 : Int) ≤ 1048576 - (n0 : Nat) - ((n1 + sumN its1 + (m1 + sumN jts1) + k1) : Nat) := by omega
  have hI0_a1 : ∀ t ∈ its1, t.n ≤ 1000000000 := fun t ht => by have := sumN_mem ht; omega
  have hI1_a1 : ∀ t ∈ jts1, t.n ≤ 1000000000 := fun t ht => by have := sumN_mem ht; omega
  go_wp2_with fail
  have fx_c2_a0_0 := Ext.cell c2_a0_0
  have fx_c2_a0_1 := Ext.cell c2_a0_1
  have fx_c2_a0_2 := Ext.cell c2_a0_2
  have fx_c2_a1_0 := Ext.cell c2_a1_0
  have fx_c2_a1_1 := Ext.cell c2_a1_1
  have fx_c2_a1_2 := Ext.cell c2_a1_2
  have fx_c2_a1_3 := Ext.cell c2_a1_3
  have fx_c2_a1_4 := Ext.cell c2_a1_4
  have fx_c2_a1_5 := Ext.cell c2_a1_5
  refine Mix.wp_region_mix [3, 1, 3, 1, 1, 0] (fun w' => ∃ x : Ext w2, w' = x.w) (by kernel_rfl) (by kernel_rfl) (InExt.drew _) ?_
  repeat (first | (refine Mix.wpMix_read (by rfl) ?_; go_big_quiet_step (fail); refine wpQuiet_nil ?_) | (refine Mix.wpMix_pure (by rfl) ?_; go_big_quiet_step (fail); refine wpQuiet_nil ?_))
  refine Mix.wpMix_chg (by rfl) (fun K hK => ?_)
  go_wp2_with fail
  refine (toMachine_c _ _ _ _ _ _ _ (by exact (P0.out.rd)) (by omega)).mono ?_
  rintro e w3 ⟨g011, rfl, q3, hb⟩
  have hb' : Below w2.heap.size w2 w3 := (by first | (with_reducible exact hb) | (with_reducible exact up1 hb) | (with_reducible exact up2 hb) | (with_reducible exact up3 hb) | (with_reducible exact up4 hb) | (with_reducible exact below_of_drew hb) | (with_reducible exact below_of_drew (up1 hb)))
  have z3 := hb'.size
  have c3_a0_0 : w3.cell? ⟨w.heap.size, 0, none⟩ = some (.int .i64 sy0) := keepc hb' c2_a0_0
  clear c2_a0_0 ac2_a0_0
  have c3_a0_1 : w3.cell? ⟨w.heap.size, 1, none⟩ = some (.int .i64 st0) := keepc hb' c2_a0_1
  clear c2_a0_1 ac2_a0_1
  have c3_a0_2 : w3.cell? ⟨w.heap.size, 2, none⟩ = some (.slice A0 n0 c0) := keepc hb' c2_a0_2
  clear c2_a0_2 ac2_a0_2
  have c3_a1_0 : w3.cell? ⟨(w.heap.size + 1), 0, none⟩ = some (.int .i64 st1) := keepc hb' c2_a1_0
  clear c2_a1_0 ac2_a1_0
  have c3_a1_1 : w3.cell? ⟨(w.heap.size + 1), 1, none⟩ = some (.int .i64 hd1) := keepc hb' c2_a1_1
  clear c2_a1_1 ac2_a1_1
  have c3_a1_2 : w3.cell? ⟨(w.heap.size + 1), 2, none⟩ = some (.int .i64 at1) := keepc hb' c2_a1_2
  clear c2_a1_2 ac2_a1_2
  have c3_a1_3 : w3.cell? ⟨(w.heap.size + 1), 3, none⟩ = some (.slice A1 n1 c1) := keepc hb' c2_a1_3
  clear c2_a1_3 ac2_a1_3
  have c3_a1_4 : w3.cell? ⟨(w.heap.size + 1), 4, none⟩ = some (.slice B1 m1 d1) := keepc hb' c2_a1_4
  clear c2_a1_4 ac2_a1_4
  have c3_a1_5 : w3.cell? ⟨(w.heap.size + 1), 5, none⟩ = some (.slice C1 k1 e1) := keepc hb' c2_a1_5
  clear c2_a1_5 ac2_a1_5
  have ac3_a0_0 := fun o => keepa o c3_a0_0
  have ac3_a0_1 := fun o => keepa o c3_a0_1
  have ac3_a0_2 := fun o => keepa o c3_a0_2
  have ac3_a1_0 := fun o => keepa o c3_a1_0
  have ac3_a1_1 := fun o => keepa o c3_a1_1
  have ac3_a1_2 := fun o => keepa o c3_a1_2
  have ac3_a1_3 := fun o => keepa o c3_a1_3
  have ac3_a1_4 := fun o => keepa o c3_a1_4
  have ac3_a1_5 := fun o => keepa o c3_a1_5
  have rP0 := P0.out.below hb'; clear P0; have P0 := Lib.hid rP0; clear rP0
  have rP1 := P1.out.below hb'; clear P1; have P1 := Lib.hid rP1; clear rP1
  have rB := below_chain B.out (by omega) hb'; clear B; have B := Lib.hid rB; clear rB
  have Fo12 := Lib.hid q3; clear q3
  have em3 : Below w2.heap.size w2 w3 := hb'
  clear hb hb'
  go_wp2_with fail
  refine hK _ _ ⟨⟨_, em3⟩, rfl⟩ ?_
  clear hK K
  repeat (first | (refine Mix.wpMix_read (by rfl) ?_; go_big_quiet_step (fail); refine wpQuiet_nil ?_) | (refine Mix.wpMix_pure (by rfl) ?_; go_big_quiet_step (fail); refine wpQuiet_nil ?_))
  refine Mix.wpMix_chg (by rfl) (fun K hK => ?_)
  go_wp2_with fail
  refine (toFormula_c _ _ _ _ _ _ _ _ _ _ _ _ _ _ _ _ (by exact (P1.out.rd)) (by omega) (by omega) (by omega) hI0_a1 hI1_a1).mono ?_
  rintro e w4 ⟨g013, js014, g115, js116, g217, rfl, hx0_4, hx1_4, q4, hb⟩
  have hb' : Below w3.heap.size w3 w4 := (by first | (with_reducible exact hb) | (with_reducible exact up1 hb) | (with_reducible exact up2 hb) | (with_reducible exact up3 hb) | (with_reducible exact up4 hb) | (with_reducible exact below_of_drew hb) | (with_reducible exact below_of_drew (up1 hb)))
  have z4 := hb'.size
  have c4_a0_0 : w4.cell? ⟨w.heap.size, 0, none⟩ = some (.int .i64 sy0) := keepc hb' c3_a0_0
  clear c3_a0_0 ac3_a0_0
  have c4_a0_1 : w4.cell? ⟨w.heap.size, 1, none⟩ = some (.int .i64 st0) := keepc hb' c3_a0_1
  clear c3_a0_1 ac3_a0_1
  have c4_a0_2 : w4.cell? ⟨w.heap.size, 2, none⟩ = some (.slice A0 n0 c0) := keepc hb' c3_a0_2
  clear c3_a0_2 ac3_a0_2
  have c4_a1_0 : w4.cell? ⟨(w.heap.size + 1), 0, none⟩ = some (.int .i64 st1) := keepc hb' c3_a1_0
  clear c3_a1_0 ac3_a1_0
  have c4_a1_1 : w4.cell? ⟨(w.heap.size + 1), 1, none⟩ = some (.int .i64 hd1) := keepc hb' c3_a1_1
  clear c3_a1_1 ac3_a1_1
  have c4_a1_2 : w4.cell? ⟨(w.heap.size + 1), 2, none⟩ = some (.int .i64 at1) := keepc hb' c3_a1_2
  clear c3_a1_2 ac3_a1_2
  have c4_a1_3 : w4.cell? ⟨(w.heap.size + 1), 3, none⟩ = some (.slice A1 n1 c1) := keepc hb' c3_a1_3
  clear c3_a1_3 ac3_a1_3
  have c4_a1_4 : w4.cell? ⟨(w.heap.size + 1), 4, none⟩ = some (.slice B1 m1 d1) := keepc hb' c3_a1_4
  clear c3_a1_4 ac3_a1_4
  have c4_a1_5 : w4.cell? ⟨(w.heap.size + 1), 5, none⟩ = some (.slice C1 k1 e1) := keepc hb' c3_a1_5
  clear c3_a1_5 ac3_a1_5
  have ac4_a0_0 := fun o => keepa o c4_a0_0
  have ac4_a0_1 := fun o => keepa o c4_a0_1
  have ac4_a0_2 := fun o => keepa o c4_a0_2
  have ac4_a1_0 := fun o => keepa o c4_a1_0
  have ac4_a1_1 := fun o => keepa o c4_a1_1
  have ac4_a1_2 := fun o => keepa o c4_a1_2
  have ac4_a1_3 := fun o => keepa o c4_a1_3
  have ac4_a1_4 := fun o => keepa o c4_a1_4
  have ac4_a1_5 := fun o => keepa o c4_a1_5
  have rP0 := P0.out.below hb'; clear P0; have P0 := Lib.hid rP0; clear rP0
  have rP1 := P1.out.below hb'; clear P1; have P1 := Lib.hid rP1; clear rP1
  have rFo12 := Fo12.out.below hb'; clear Fo12; have Fo12 := Lib.hid rFo12; clear rFo12
  have rB := below_chain B.out (by omega) hb'; clear B; have B := Lib.hid rB; clear rB
  have Fo18 := Lib.hid q4; clear q4
  have hm0_o18 := hx0_4
  have hI0_o18 : ∀ t ∈ js014, t.n ≤ 1000000000 := hi_of ((P1.out.rd).left.left) ((Fo18.out.rd).left.left) hx0_4 hI0_a1
  have hSm0_o18 : sumN js014 ≤ sumN its1 := sum_of ((P1.out.rd).left.left) ((Fo18.out.rd).left.left) hx0_4
  have hm1_o18 := hx1_4
  have hI1_o18 : ∀ t ∈ js116, t.n ≤ 1000000000 := hi_of ((P1.out.rd).left.right) ((Fo18.out.rd).left.right) hx1_4 hI1_a1
  have hSm1_o18 : sumN js116 ≤ sumN jts1 := sum_of ((P1.out.rd).left.right) ((Fo18.out.rd).left.right) hx1_4
  have em4 : Below w2.heap.size w2 w4 := below_chain em3 (by omega) hb'
  clear hb hb'
  go_wp2_with fail
  refine hK _ _ ⟨⟨_, em4⟩, rfl⟩ ?_
  clear hK K
  refine Mix.wpMix_chg (by rfl) (fun K hK => ?_)
  go_wp2_with fail
  refine (sFormulaText_c _ _ _ _ _ _ _ _ _ _ _ _ _ _ _ _ _ _ _ _ _ _ (by exact (Fo12.out.rd)) (by exact (Fo18.out.rd)) (by omega) (by omega) (by omega) (by omega) hI0_o18 hI1_o18).mono ?_
  rintro e w5 ⟨rfl, hb⟩
  have hb' : Below w4.heap.size w4 w5 := (by first | (with_reducible exact hb) | (with_reducible exact up1 hb) | (with_reducible exact up2 hb) | (with_reducible exact up3 hb) | (with_reducible exact up4 hb) | (with_reducible exact below_of_drew hb) | (with_reducible exact below_of_drew (up1 hb)))
  have z5 := hb'.size
  have c5_a0_0 : w5.cell? ⟨w.heap.size, 0, none⟩ = some (.int .i64 sy0) := keepc hb' c4_a0_0
  clear c4_a0_0 ac4_a0_0
  have c5_a0_1 : w5.cell? ⟨w.heap.size, 1, none⟩ = some (.int .i64 st0) := keepc hb' c4_a0_1
  clear c4_a0_1 ac4_a0_1
  have c5_a0_2 : w5.cell? ⟨w.heap.size, 2, none⟩ = some (.slice A0 n0 c0) := keepc hb' c4_a0_2
  clear c4_a0_2 ac4_a0_2
  have c5_a1_0 : w5.cell? ⟨(w.heap.size + 1), 0, none⟩ = some (.int .i64 st1) := keepc hb' c4_a1_0
  clear c4_a1_0 ac4_a1_0
  have c5_a1_1 : w5.cell? ⟨(w.heap.size + 1), 1, none⟩ = some (.int .i64 hd1) := keepc hb' c4_a1_1
  clear c4_a1_1 ac4_a1_1
  have c5_a1_2 : w5.cell? ⟨(w.heap.size + 1), 2, none⟩ = some (.int .i64 at1) := keepc hb' c4_a1_2
  clear c4_a1_2 ac4_a1_2
  have c5_a1_3 : w5.cell? ⟨(w.heap.size + 1), 3, none⟩ = some (.slice A1 n1 c1) := keepc hb' c4_a1_3
  clear c4_a1_3 ac4_a1_3
  have c5_a1_4 : w5.cell? ⟨(w.heap.size + 1), 4, none⟩ = some (.slice B1 m1 d1) := keepc hb' c4_a1_4
  clear c4_a1_4 ac4_a1_4
  have c5_a1_5 : w5.cell? ⟨(w.heap.size + 1), 5, none⟩ = some (.slice C1 k1 e1) := keepc hb' c4_a1_5
  clear c4_a1_5 ac4_a1_5
  have ac5_a0_0 := fun o => keepa o c5_a0_0
  have ac5_a0_1 := fun o => keepa o c5_a0_1
  have ac5_a0_2 := fun o => keepa o c5_a0_2
  have ac5_a1_0 := fun o => keepa o c5_a1_0
  have ac5_a1_1 := fun o => keepa o c5_a1_1
  have ac5_a1_2 := fun o => keepa o c5_a1_2
  have ac5_a1_3 := fun o => keepa o c5_a1_3
  have ac5_a1_4 := fun o => keepa o c5_a1_4
  have ac5_a1_5 := fun o => keepa o c5_a1_5
  have rP0 := P0.out.below hb'; clear P0; have P0 := Lib.hid rP0; clear rP0
  have rP1 := P1.out.below hb'; clear P1; have P1 := Lib.hid rP1; clear rP1
  have rFo12 := Fo12.out.below hb'; clear Fo12; have Fo12 := Lib.hid rFo12; clear rFo12
  have rFo18 := Fo18.out.below hb'; clear Fo18; have Fo18 := Lib.hid rFo18; clear rFo18
  have rB := below_chain B.out (by omega) hb'; clear B; have B := Lib.hid rB; clear rB
  have em5 : Below w2.heap.size w2 w5 := below_chain em4 (by omega) hb'
  clear hb hb'
  go_wp2_with fail
  refine hK _ _ ⟨⟨_, em5⟩, rfl⟩ ?_
  clear hK K
  repeat (first | (refine Mix.wpMix_read (by rfl) ?_; go_big_quiet_step (fail); refine wpQuiet_nil ?_) | (refine Mix.wpMix_pure (by rfl) ?_; go_big_quiet_step (fail); refine wpQuiet_nil ?_))
  (refine Mix.wpMix_nil ?_; try simp only [Exit.then])
  clear fx_c2_a0_0
  clear fx_c2_a0_1
  clear fx_c2_a0_2
  clear fx_c2_a1_0
  clear fx_c2_a1_1
  clear fx_c2_a1_2
  clear fx_c2_a1_3
  clear fx_c2_a1_4
  clear fx_c2_a1_5
  clear Fo12
  clear Fo18
  go_wp2_with fail
  refine (toMachine_c _ _ _ _ _ _ _ (by exact (P0.out.rd)) (by omega)).mono ?_
  rintro e w6 ⟨g019, rfl, q6, hb⟩
  have hb' : Below w5.heap.size w5 w6 := (by first | (with_reducible exact hb) | (with_reducible exact up1 hb) | (with_reducible exact up2 hb) | (with_reducible exact up3 hb) | (with_reducible exact up4 hb) | (with_reducible exact below_of_drew hb) | (with_reducible exact below_of_drew (up1 hb)))
  have z6 := hb'.size
  have c6_a0_0 : w6.cell? ⟨w.heap.size, 0, none⟩ = some (.int .i64 sy0) := keepc hb' c5_a0_0
  clear c5_a0_0 ac5_a0_0
  have c6_a0_1 : w6.cell? ⟨w.heap.size, 1, none⟩ = some (.int .i64 st0) := keepc hb' c5_a0_1
  clear c5_a0_1 ac5_a0_1
  have c6_a0_2 : w6.cell? ⟨w.heap.size, 2, none⟩ = some (.slice A0 n0 c0) := keepc hb' c5_a0_2
  clear c5_a0_2 ac5_a0_2
  have c6_a1_0 : w6.cell? ⟨(w.heap.size + 1), 0, none⟩ = some (.int .i64 st1) := keepc hb' c5_a1_0
  clear c5_a1_0 ac5_a1_0
  have c6_a1_1 : w6.cell? ⟨(w.heap.size + 1), 1, none⟩ = some (.int .i64 hd1) := keepc hb' c5_a1_1
  clear c5_a1_1 ac5_a1_1
  have c6_a1_2 : w6.cell? ⟨(w.heap.size + 1), 2, none⟩ = some (.int .i64 at1) := keepc hb' c5_a1_2
  clear c5_a1_2 ac5_a1_2
  have c6_a1_3 : w6.cell? ⟨(w.heap.size + 1), 3, none⟩ = some (.slice A1 n1 c1) := keepc hb' c5_a1_3
  clear c5_a1_3 ac5_a1_3
  have c6_a1_4 : w6.cell? ⟨(w.heap.size + 1), 4, none⟩ = some (.slice B1 m1 d1) := keepc hb' c5_a1_4
  clear c5_a1_4 ac5_a1_4
  have c6_a1_5 : w6.cell? ⟨(w.heap.size + 1), 5, none⟩ = some (.slice C1 k1 e1) := keepc hb' c5_a1_5
  clear c5_a1_5 ac5_a1_5
  have ac6_a0_0 := fun o => keepa o c6_a0_0
  have ac6_a0_1 := fun o => keepa o c6_a0_1
  have ac6_a0_2 := fun o => keepa o c6_a0_2
  have ac6_a1_0 := fun o => keepa o c6_a1_0
  have ac6_a1_1 := fun o => keepa o c6_a1_1
  have ac6_a1_2 := fun o => keepa o c6_a1_2
  have ac6_a1_3 := fun o => keepa o c6_a1_3
  have ac6_a1_4 := fun o => keepa o c6_a1_4
  have ac6_a1_5 := fun o => keepa o c6_a1_5
  have rP0 := P0.out.below hb'; clear P0; have P0 := Lib.hid rP0; clear rP0
  have rP1 := P1.out.below hb'; clear P1; have P1 := Lib.hid rP1; clear rP1
  have rB := below_chain B.out (by omega) hb'; clear B; have B := Lib.hid rB; clear rB
  have Fo20 := Lib.hid q6; clear q6
  clear hb hb'
  go_wp2_with fail
  refine (toFormula_c _ _ _ _ _ _ _ _ _ _ _ _ _ _ _ _ (by exact ((P1.out.rd).alloc _)) (by omega) (by omega) (by omega) hI0_a1 hI1_a1).mono ?_
  rintro e w7 ⟨g021, js022, g123, js124, g225, rfl, hx0_7, hx1_7, q7, hb⟩
  try simp only [World.size_alloc] at q7
  have hb' : Below w6.heap.size w6 w7 := (by first | (with_reducible exact hb) | (with_reducible exact up1 hb) | (with_reducible exact up2 hb) | (with_reducible exact up3 hb) | (with_reducible exact up4 hb) | (with_reducible exact below_of_drew hb) | (with_reducible exact below_of_drew (up1 hb)))
  have z7 := hb'.size
  have c7_a0_0 : w7.cell? ⟨w.heap.size, 0, none⟩ = some (.int .i64 sy0) := keepc hb' c6_a0_0
  clear c6_a0_0 ac6_a0_0
  have c7_a0_1 : w7.cell? ⟨w.heap.size, 1, none⟩ = some (.int .i64 st0) := keepc hb' c6_a0_1
  clear c6_a0_1 ac6_a0_1
  have c7_a0_2 : w7.cell? ⟨w.heap.size, 2, none⟩ = some (.slice A0 n0 c0) := keepc hb' c6_a0_2
  clear c6_a0_2 ac6_a0_2
  have c7_a1_0 : w7.cell? ⟨(w.heap.size + 1), 0, none⟩ = some (.int .i64 st1) := keepc hb' c6_a1_0
  clear c6_a1_0 ac6_a1_0
  have c7_a1_1 : w7.cell? ⟨(w.heap.size + 1), 1, none⟩ = some (.int .i64 hd1) := keepc hb' c6_a1_1
  clear c6_a1_1 ac6_a1_1
  have c7_a1_2 : w7.cell? ⟨(w.heap.size + 1), 2, none⟩ = some (.int .i64 at1) := keepc hb' c6_a1_2
  clear c6_a1_2 ac6_a1_2
  have c7_a1_3 : w7.cell? ⟨(w.heap.size + 1), 3, none⟩ = some (.slice A1 n1 c1) := keepc hb' c6_a1_3
  clear c6_a1_3 ac6_a1_3
  have c7_a1_4 : w7.cell? ⟨(w.heap.size + 1), 4, none⟩ = some (.slice B1 m1 d1) := keepc hb' c6_a1_4
  clear c6_a1_4 ac6_a1_4
  have c7_a1_5 : w7.cell? ⟨(w.heap.size + 1), 5, none⟩ = some (.slice C1 k1 e1) := keepc hb' c6_a1_5
  clear c6_a1_5 ac6_a1_5
  have c7_o20_0 : w7.cell? ⟨w6.heap.size, 0, none⟩ = some (.int .i64 sy0) := keepc hb (by first | (simp; done) | (rw [World.cell?_alloc_past _ _ _ (by simp <;> omega)]; simp; done) | (rw [World.cell?_alloc_past _ _ _ (by simp <;> omega), World.cell?_alloc_past _ _ _ (by simp <;> omega)]; simp; done) | (rw [World.cell?_alloc_past _ _ _ (by simp <;> omega), World.cell?_alloc_past _ _ _ (by simp <;> omega), World.cell?_alloc_past _ _ _ (by simp <;> omega)]; simp; done) | (rw [World.cell?_alloc_at _ _ _ _ (by simp)]; simp; done) | (rw [World.cell?_alloc_past _ _ _ (by simp <;> omega), World.cell?_alloc_at _ _ _ _ (by simp)]; simp; done) | (rw [World.cell?_alloc_past _ _ _ (by simp <;> omega), World.cell?_alloc_past _ _ _ (by simp <;> omega), World.cell?_alloc_at _ _ _ _ (by simp)]; simp; done) | (rw [World.cell?_alloc_past _ _ _ (by simp <;> omega), World.cell?_alloc_past _ _ _ (by simp <;> omega), World.cell?_alloc_past _ _ _ (by simp <;> omega), World.cell?_alloc_at _ _ _ _ (by simp)]; simp; done))
  have hl_c7_o20_0 : w6.heap.size < w7.heap.size := World.block_lt_of_cell? w7 _ c7_o20_0
  have c7_o20_1 : w7.cell? ⟨w6.heap.size, 1, none⟩ = some (.int .i64 st0) := keepc hb (by first | (simp; done) | (rw [World.cell?_alloc_past _ _ _ (by simp <;> omega)]; simp; done) | (rw [World.cell?_alloc_past _ _ _ (by simp <;> omega), World.cell?_alloc_past _ _ _ (by simp <;> omega)]; simp; done) | (rw [World.cell?_alloc_past _ _ _ (by simp <;> omega), World.cell?_alloc_past _ _ _ (by simp <;> omega), World.cell?_alloc_past _ _ _ (by simp <;> omega)]; simp; done) | (rw [World.cell?_alloc_at _ _ _ _ (by simp)]; simp; done) | (rw [World.cell?_alloc_past _ _ _ (by simp <;> omega), World.cell?_alloc_at _ _ _ _ (by simp)]; simp; done) | (rw [World.cell?_alloc_past _ _ _ (by simp <;> omega), World.cell?_alloc_past _ _ _ (by simp <;> omega), World.cell?_alloc_at _ _ _ _ (by simp)]; simp; done) | (rw [World.cell?_alloc_past _ _ _ (by simp <;> omega), World.cell?_alloc_past _ _ _ (by simp <;> omega), World.cell?_alloc_past _ _ _ (by simp <;> omega), World.cell?_alloc_at _ _ _ _ (by simp)]; simp; done))
  have c7_o20_2 : w7.cell? ⟨w6.heap.size, 2, none⟩ = some (.slice (some ⟨g019, 0, none⟩) n0 n0) := keepc hb (by first | (simp; done) | (rw [World.cell?_alloc_past _ _ _ (by simp <;> omega)]; simp; done) | (rw [World.cell?_alloc_past _ _ _ (by simp <;> omega), World.cell?_alloc_past _ _ _ (by simp <;> omega)]; simp; done) | (rw [World.cell?_alloc_past _ _ _ (by simp <;> omega), World.cell?_alloc_past _ _ _ (by simp <;> omega), World.cell?_alloc_past _ _ _ (by simp <;> omega)]; simp; done) | (rw [World.cell?_alloc_at _ _ _ _ (by simp)]; simp; done) | (rw [World.cell?_alloc_past _ _ _ (by simp <;> omega), World.cell?_alloc_at _ _ _ _ (by simp)]; simp; done) | (rw [World.cell?_alloc_past _ _ _ (by simp <;> omega), World.cell?_alloc_past _ _ _ (by simp <;> omega), World.cell?_alloc_at _ _ _ _ (by simp)]; simp; done) | (rw [World.cell?_alloc_past _ _ _ (by simp <;> omega), World.cell?_alloc_past _ _ _ (by simp <;> omega), World.cell?_alloc_past _ _ _ (by simp <;> omega), World.cell?_alloc_at _ _ _ _ (by simp)]; simp; done))
  have ac7_a0_0 := fun o => keepa o c7_a0_0
  have ac7_a0_1 := fun o => keepa o c7_a0_1
  have ac7_a0_2 := fun o => keepa o c7_a0_2
  have ac7_a1_0 := fun o => keepa o c7_a1_0
  have ac7_a1_1 := fun o => keepa o c7_a1_1
  have ac7_a1_2 := fun o => keepa o c7_a1_2
  have ac7_a1_3 := fun o => keepa o c7_a1_3
  have ac7_a1_4 := fun o => keepa o c7_a1_4
  have ac7_a1_5 := fun o => keepa o c7_a1_5
  have ac7_o20_0 := fun o => keepa o c7_o20_0
  have ac7_o20_1 := fun o => keepa o c7_o20_1
  have ac7_o20_2 := fun o => keepa o c7_o20_2
  have rP0 := P0.out.below hb'; clear P0; have P0 := Lib.hid rP0; clear rP0
  have rP1 := P1.out.below hb'; clear P1; have P1 := Lib.hid rP1; clear rP1
  have rFo20 := Fo20.out.below hb'; clear Fo20; have Fo20 := Lib.hid rFo20; clear rFo20
  have rB := below_chain B.out (by omega) hb'; clear B; have B := Lib.hid rB; clear rB
  have Fo26 := Lib.hid q7; clear q7
  have hm0_o26 := hx0_7
  have hI0_o26 : ∀ t ∈ js022, t.n ≤ 1000000000 := hi_of ((P1.out.rd).left.left) ((Fo26.out.rd).left.left) hx0_7 hI0_a1
  have hSm0_o26 : sumN js022 ≤ sumN its1 := sum_of ((P1.out.rd).left.left) ((Fo26.out.rd).left.left) hx0_7
  have hm1_o26 := hx1_7
  have hI1_o26 : ∀ t ∈ js124, t.n ≤ 1000000000 := hi_of ((P1.out.rd).left.right) ((Fo26.out.rd).left.right) hx1_7 hI1_a1
  have hSm1_o26 : sumN js124 ≤ sumN jts1 := sum_of ((P1.out.rd).left.right) ((Fo26.out.rd).left.right) hx1_7
  clear hb hb'
  go_wp2_with fail
  refine (iFormulaText_c _ _ _ _ _ _ _ _ _ _ _ _ _ _ _ _ _ _ _ _ _ _ (by exact ((Fo20.out.rd).alloc _)) (by exact ((Fo26.out.rd).alloc _)) (by omega) (by omega) (by omega) (by omega) hI0_o26 hI1_o26 (by exact (((HTB.out.below B.out)).alloc _))).mono ?_
  rintro e w8 ⟨rfl, hb⟩
  have hb' : Below w7.heap.size w7 w8 := (by first | (with_reducible exact hb) | (with_reducible exact up1 hb) | (with_reducible exact up2 hb) | (with_reducible exact up3 hb) | (with_reducible exact up4 hb) | (with_reducible exact below_of_drew hb) | (with_reducible exact below_of_drew (up1 hb)))
  have z8 := hb'.size
  have c8_a0_0 : w8.cell? ⟨w.heap.size, 0, none⟩ = some (.int .i64 sy0) := keepc hb' c7_a0_0
  clear c7_a0_0 ac7_a0_0
  have c8_a0_1 : w8.cell? ⟨w.heap.size, 1, none⟩ = some (.int .i64 st0) := keepc hb' c7_a0_1
  clear c7_a0_1 ac7_a0_1
  have c8_a0_2 : w8.cell? ⟨w.heap.size, 2, none⟩ = some (.slice A0 n0 c0) := keepc hb' c7_a0_2
  clear c7_a0_2 ac7_a0_2
  have c8_a1_0 : w8.cell? ⟨(w.heap.size + 1), 0, none⟩ = some (.int .i64 st1) := keepc hb' c7_a1_0
  clear c7_a1_0 ac7_a1_0
  have c8_a1_1 : w8.cell? ⟨(w.heap.size + 1), 1, none⟩ = some (.int .i64 hd1) := keepc hb' c7_a1_1
  clear c7_a1_1 ac7_a1_1
  have c8_a1_2 : w8.cell? ⟨(w.heap.size + 1), 2, none⟩ = some (.int .i64 at1) := keepc hb' c7_a1_2
  clear c7_a1_2 ac7_a1_2
  have c8_a1_3 : w8.cell? ⟨(w.heap.size + 1), 3, none⟩ = some (.slice A1 n1 c1) := keepc hb' c7_a1_3
  clear c7_a1_3 ac7_a1_3
  have c8_a1_4 : w8.cell? ⟨(w.heap.size + 1), 4, none⟩ = some (.slice B1 m1 d1) := keepc hb' c7_a1_4
  clear c7_a1_4 ac7_a1_4
  have c8_a1_5 : w8.cell? ⟨(w.heap.size + 1), 5, none⟩ = some (.slice C1 k1 e1) := keepc hb' c7_a1_5
  clear c7_a1_5 ac7_a1_5
  have c8_o20_0 : w8.cell? ⟨w6.heap.size, 0, none⟩ = some (.int .i64 sy0) := keepc hb' c7_o20_0
  clear c7_o20_0 ac7_o20_0
  have c8_o20_1 : w8.cell? ⟨w6.heap.size, 1, none⟩ = some (.int .i64 st0) := keepc hb' c7_o20_1
  clear c7_o20_1 ac7_o20_1
  have c8_o20_2 : w8.cell? ⟨w6.heap.size, 2, none⟩ = some (.slice (some ⟨g019, 0, none⟩) n0 n0) := keepc hb' c7_o20_2
  clear c7_o20_2 ac7_o20_2
  have c8_o26_0 : w8.cell? ⟨w7.heap.size, 0, none⟩ = some (.int .i64 st1) := keepc hb (by first | (simp; done) | (rw [World.cell?_alloc_past _ _ _ (by simp <;> omega)]; simp; done) | (rw [World.cell?_alloc_past _ _ _ (by simp <;> omega), World.cell?_alloc_past _ _ _ (by simp <;> omega)]; simp; done) | (rw [World.cell?_alloc_past _ _ _ (by simp <;> omega), World.cell?_alloc_past _ _ _ (by simp <;> omega), World.cell?_alloc_past _ _ _ (by simp <;> omega)]; simp; done) | (rw [World.cell?_alloc_at _ _ _ _ (by simp)]; simp; done) | (rw [World.cell?_alloc_past _ _ _ (by simp <;> omega), World.cell?_alloc_at _ _ _ _ (by simp)]; simp; done) | (rw [World.cell?_alloc_past _ _ _ (by simp <;> omega), World.cell?_alloc_past _ _ _ (by simp <;> omega), World.cell?_alloc_at _ _ _ _ (by simp)]; simp; done) | (rw [World.cell?_alloc_past _ _ _ (by simp <;> omega), World.cell?_alloc_past _ _ _ (by simp <;> omega), World.cell?_alloc_past _ _ _ (by simp <;> omega), World.cell?_alloc_at _ _ _ _ (by simp)]; simp; done))
  have hl_c8_o26_0 : w7.heap.size < w8.heap.size := World.block_lt_of_cell? w8 _ c8_o26_0
  have c8_o26_1 : w8.cell? ⟨w7.heap.size, 1, none⟩ = some (.int .i64 hd1) := keepc hb (by first | (simp; done) | (rw [World.cell?_alloc_past _ _ _ (by simp <;> omega)]; simp; done) | (rw [World.cell?_alloc_past _ _ _ (by simp <;> omega), World.cell?_alloc_past _ _ _ (by simp <;> omega)]; simp; done) | (rw [World.cell?_alloc_past _ _ _ (by simp <;> omega), World.cell?_alloc_past _ _ _ (by simp <;> omega), World.cell?_alloc_past _ _ _ (by simp <;> omega)]; simp; done) | (rw [World.cell?_alloc_at _ _ _ _ (by simp)]; simp; done) | (rw [World.cell?_alloc_past _ _ _ (by simp <;> omega), World.cell?_alloc_at _ _ _ _ (by simp)]; simp; done) | (rw [World.cell?_alloc_past _ _ _ (by simp <;> omega), World.cell?_alloc_past _ _ _ (by simp <;> omega), World.cell?_alloc_at _ _ _ _ (by simp)]; simp; done) | (rw [World.cell?_alloc_past _ _ _ (by simp <;> omega), World.cell?_alloc_past _ _ _ (by simp <;> omega), World.cell?_alloc_past _ _ _ (by simp <;> omega), World.cell?_alloc_at _ _ _ _ (by simp)]; simp; done))
  have c8_o26_2 : w8.cell? ⟨w7.heap.size, 2, none⟩ = some (.int .i64 at1) := keepc hb (by first | (simp; done) | (rw [World.cell?_alloc_past _ _ _ (by simp <;> omega)]; simp; done) | (rw [World.cell?_alloc_past _ _ _ (by simp <;> omega), World.cell?_alloc_past _ _ _ (by simp <;> omega)]; simp; done) | (rw [World.cell?_alloc_past _ _ _ (by simp <;> omega), World.cell?_alloc_past _ _ _ (by simp <;> omega), World.cell?_alloc_past _ _ _ (by simp <;> omega)]; simp; done) | (rw [World.cell?_alloc_at _ _ _ _ (by simp)]; simp; done) | (rw [World.cell?_alloc_past _ _ _ (by simp <;> omega), World.cell?_alloc_at _ _ _ _ (by simp)]; simp; done) | (rw [World.cell?_alloc_past _ _ _ (by simp <;> omega), World.cell?_alloc_past _ _ _ (by simp <;> omega), World.cell?_alloc_at _ _ _ _ (by simp)]; simp; done) | (rw [World.cell?_alloc_past _ _ _ (by simp <;> omega), World.cell?_alloc_past _ _ _ (by simp <;> omega), World.cell?_alloc_past _ _ _ (by simp <;> omega), World.cell?_alloc_at _ _ _ _ (by simp)]; simp; done))
  have c8_o26_3 : w8.cell? ⟨w7.heap.size, 3, none⟩ = some (.slice (some ⟨g021, 0, none⟩) n1 n1) := keepc hb (by first | (simp; done) | (rw [World.cell?_alloc_past _ _ _ (by simp <;> omega)]; simp; done) | (rw [World.cell?_alloc_past _ _ _ (by simp <;> omega), World.cell?_alloc_past _ _ _ (by simp <;> omega)]; simp; done) | (rw [World.cell?_alloc_past _ _ _ (by simp <;> omega), World.cell?_alloc_past _ _ _ (by simp <;> omega), World.cell?_alloc_past _ _ _ (by simp <;> omega)]; simp; done) | (rw [World.cell?_alloc_at _ _ _ _ (by simp)]; simp; done) | (rw [World.cell?_alloc_past _ _ _ (by simp <;> omega), World.cell?_alloc_at _ _ _ _ (by simp)]; simp; done) | (rw [World.cell?_alloc_past _ _ _ (by simp <;> omega), World.cell?_alloc_past _ _ _ (by simp <;> omega), World.cell?_alloc_at _ _ _ _ (by simp)]; simp; done) | (rw [World.cell?_alloc_past _ _ _ (by simp <;> omega), World.cell?_alloc_past _ _ _ (by simp <;> omega), World.cell?_alloc_past _ _ _ (by simp <;> omega), World.cell?_alloc_at _ _ _ _ (by simp)]; simp; done))
  have c8_o26_4 : w8.cell? ⟨w7.heap.size, 4, none⟩ = some (.slice (some ⟨g123, 0, none⟩) m1 m1) := keepc hb (by first | (simp; done) | (rw [World.cell?_alloc_past _ _ _ (by simp <;> omega)]; simp; done) | (rw [World.cell?_alloc_past _ _ _ (by simp <;> omega), World.cell?_alloc_past _ _ _ (by simp <;> omega)]; simp; done) | (rw [World.cell?_alloc_past _ _ _ (by simp <;> omega), World.cell?_alloc_past _ _ _ (by simp <;> omega), World.cell?_alloc_past _ _ _ (by simp <;> omega)]; simp; done) | (rw [World.cell?_alloc_at _ _ _ _ (by simp)]; simp; done) | (rw [World.cell?_alloc_past _ _ _ (by simp <;> omega), World.cell?_alloc_at _ _ _ _ (by simp)]; simp; done) | (rw [World.cell?_alloc_past _ _ _ (by simp <;> omega), World.cell?_alloc_past _ _ _ (by simp <;> omega), World.cell?_alloc_at _ _ _ _ (by simp)]; simp; done) | (rw [World.cell?_alloc_past _ _ _ (by simp <;> omega), World.cell?_alloc_past _ _ _ (by simp <;> omega), World.cell?_alloc_past _ _ _ (by simp <;> omega), World.cell?_alloc_at _ _ _ _ (by simp)]; simp; done))
  have c8_o26_5 : w8.cell? ⟨w7.heap.size, 5, none⟩ = some (.slice (some ⟨g225, 0, none⟩) k1 k1) := keepc hb (by first | (simp; done) | (rw [World.cell?_alloc_past _ _ _ (by simp <;> omega)]; simp; done) | (rw [World.cell?_alloc_past _ _ _ (by simp <;> omega), World.cell?_alloc_past _ _ _ (by simp <;> omega)]; simp; done) | (rw [World.cell?_alloc_past _ _ _ (by simp <;> omega), World.cell?_alloc_past _ _ _ (by simp <;> omega), World.cell?_alloc_past _ _ _ (by simp <;> omega)]; simp; done) | (rw [World.cell?_alloc_at _ _ _ _ (by simp)]; simp; done) | (rw [World.cell?_alloc_past _ _ _ (by simp <;> omega), World.cell?_alloc_at _ _ _ _ (by simp)]; simp; done) | (rw [World.cell?_alloc_past _ _ _ (by simp <;> omega), World.cell?_alloc_past _ _ _ (by simp <;> omega), World.cell?_alloc_at _ _ _ _ (by simp)]; simp; done) | (rw [World.cell?_alloc_past _ _ _ (by simp <;> omega), World.cell?_alloc_past _ _ _ (by simp <;> omega), World.cell?_alloc_past _ _ _ (by simp <;> omega), World.cell?_alloc_at _ _ _ _ (by simp)]; simp; done))
  have ac8_a0_0 := fun o => keepa o c8_a0_0
  have ac8_a0_1 := fun o => keepa o c8_a0_1
  have ac8_a0_2 := fun o => keepa o c8_a0_2
  have ac8_a1_0 := fun o => keepa o c8_a1_0
  have ac8_a1_1 := fun o => keepa o c8_a1_1
  have ac8_a1_2 := fun o => keepa o c8_a1_2
  have ac8_a1_3 := fun o => keepa o c8_a1_3
  have ac8_a1_4 := fun o => keepa o c8_a1_4
  have ac8_a1_5 := fun o => keepa o c8_a1_5
  have ac8_o20_0 := fun o => keepa o c8_o20_0
  have ac8_o20_1 := fun o => keepa o c8_o20_1
  have ac8_o20_2 := fun o => keepa o c8_o20_2
  have ac8_o26_0 := fun o => keepa o c8_o26_0
  have ac8_o26_1 := fun o => keepa o c8_o26_1
  have ac8_o26_2 := fun o => keepa o c8_o26_2
  have ac8_o26_3 := fun o => keepa o c8_o26_3
  have ac8_o26_4 := fun o => keepa o c8_o26_4
  have ac8_o26_5 := fun o => keepa o c8_o26_5
  have rP0 := P0.out.below hb'; clear P0; have P0 := Lib.hid rP0; clear rP0
  have rP1 := P1.out.below hb'; clear P1; have P1 := Lib.hid rP1; clear rP1
  have rFo20 := Fo20.out.below hb'; clear Fo20; have Fo20 := Lib.hid rFo20; clear rFo20
  have rFo26 := Fo26.out.below hb'; clear Fo26; have Fo26 := Lib.hid rFo26; clear rFo26
  have rB := below_chain B.out (by omega) hb'; clear B; have B := Lib.hid rB; clear rB
  clear hb hb'
  go_wp2_with fail
  have fx_c8_a0_0 := Ext.cell c8_a0_0
  have fx_c8_a0_1 := Ext.cell c8_a0_1
  have fx_c8_a0_2 := Ext.cell c8_a0_2
  have fx_c8_a1_0 := Ext.cell c8_a1_0
  have fx_c8_a1_1 := Ext.cell c8_a1_1
  have fx_c8_a1_2 := Ext.cell c8_a1_2
  have fx_c8_a1_3 := Ext.cell c8_a1_3
  have fx_c8_a1_4 := Ext.cell c8_a1_4
  have fx_c8_a1_5 := Ext.cell c8_a1_5
  have fx_c8_o20_0 := Ext.cell c8_o20_0
  have fx_c8_o20_1 := Ext.cell c8_o20_1
  have fx_c8_o20_2 := Ext.cell c8_o20_2
  have fx_c8_o26_0 := Ext.cell c8_o26_0
  have fx_c8_o26_1 := Ext.cell c8_o26_1
  have fx_c8_o26_2 := Ext.cell c8_o26_2
  have fx_c8_o26_3 := Ext.cell c8_o26_3
  have fx_c8_o26_4 := Ext.cell c8_o26_4
  have fx_c8_o26_5 := Ext.cell c8_o26_5
  refine Mix.wp_region_mix [3, 3, 1, 1, 0] (fun w' => ∃ x : Ext w8, w' = x.w) (by kernel_rfl) (by kernel_rfl) (InExt.drew _) ?_
  repeat (first | (refine Mix.wpMix_read (by rfl) ?_; go_big_quiet_step (fail); refine wpQuiet_nil ?_) | (refine Mix.wpMix_pure (by rfl) ?_; go_big_quiet_step (fail); refine wpQuiet_nil ?_))
  refine Mix.wpMix_chg (by rfl) (fun K hK => ?_)
  go_wp2_with fail
  refine (toMachine_c _ _ _ _ _ _ _ (by exact (P0.out.rd)) (by omega)).mono ?_
  rintro e w9 ⟨g027, rfl, q9, hb⟩
  have hb' : Below w8.heap.size w8 w9 := (by first | (with_reducible exact hb) | (with_reducible exact up1 hb) | (with_reducible exact up2 hb) | (with_reducible exact up3 hb) | (with_reducible exact up4 hb) | (with_reducible exact below_of_drew hb) | (with_reducible exact below_of_drew (up1 hb)))
  have z9 := hb'.size
  have c9_a0_0 : w9.cell? ⟨w.heap.size, 0, none⟩ = some (.int .i64 sy0) := keepc hb' c8_a0_0
  clear c8_a0_0 ac8_a0_0
  have c9_a0_1 : w9.cell? ⟨w.heap.size, 1, none⟩ = some (.int .i64 st0) := keepc hb' c8_a0_1
  clear c8_a0_1 ac8_a0_1
  have c9_a0_2 : w9.cell? ⟨w.heap.size, 2, none⟩ = some (.slice A0 n0 c0) := keepc hb' c8_a0_2
  clear c8_a0_2 ac8_a0_2
  have c9_a1_0 : w9.cell? ⟨(w.heap.size + 1), 0, none⟩ = some (.int .i64 st1) := keepc hb' c8_a1_0
  clear c8_a1_0 ac8_a1_0
  have c9_a1_1 : w9.cell? ⟨(w.heap.size + 1), 1, none⟩ = some (.int .i64 hd1) := keepc hb' c8_a1_1
  clear c8_a1_1 ac8_a1_1
  have c9_a1_2 : w9.cell? ⟨(w.heap.size + 1), 2, none⟩ = some (.int .i64 at1) := keepc hb' c8_a1_2
  clear c8_a1_2 ac8_a1_2
  have c9_a1_3 : w9.cell? ⟨(w.heap.size + 1), 3, none⟩ = some (.slice A1 n1 c1) := keepc hb' c8_a1_3
  clear c8_a1_3 ac8_a1_3
  have c9_a1_4 : w9.cell? ⟨(w.heap.size + 1), 4, none⟩ = some (.slice B1 m1 d1) := keepc hb' c8_a1_4
  clear c8_a1_4 ac8_a1_4
  have c9_a1_5 : w9.cell? ⟨(w.heap.size + 1), 5, none⟩ = some (.slice C1 k1 e1) := keepc hb' c8_a1_5
  clear c8_a1_5 ac8_a1_5
  have c9_o20_0 : w9.cell? ⟨w6.heap.size, 0, none⟩ = some (.int .i64 sy0) := keepc hb' c8_o20_0
  clear c8_o20_0 ac8_o20_0
  have c9_o20_1 : w9.cell? ⟨w6.heap.size, 1, none⟩ = some (.int .i64 st0) := keepc hb' c8_o20_1
  clear c8_o20_1 ac8_o20_1
  have c9_o20_2 : w9.cell? ⟨w6.heap.size, 2, none⟩ = some (.slice (some ⟨g019, 0, none⟩) n0 n0) := keepc hb' c8_o20_2
  clear c8_o20_2 ac8_o20_2
  have c9_o26_0 : w9.cell? ⟨w7.heap.size, 0, none⟩ = some (.int .i64 st1) := keepc hb' c8_o26_0
  clear c8_o26_0 ac8_o26_0
  have c9_o26_1 : w9.cell? ⟨w7.heap.size, 1, none⟩ = some (.int .i64 hd1) := keepc hb' c8_o26_1
  clear c8_o26_1 ac8_o26_1
  have c9_o26_2 : w9.cell? ⟨w7.heap.size, 2, none⟩ = some (.int .i64 at1) := keepc hb' c8_o26_2
  clear c8_o26_2 ac8_o26_2
  have c9_o26_3 : w9.cell? ⟨w7.heap.size, 3, none⟩ = some (.slice (some ⟨g021, 0, none⟩) n1 n1) := keepc hb' c8_o26_3
  clear c8_o26_3 ac8_o26_3
  have c9_o26_4 : w9.cell? ⟨w7.heap.size, 4, none⟩ = some (.slice (some ⟨g123, 0, none⟩) m1 m1) := keepc hb' c8_o26_4
  clear c8_o26_4 ac8_o26_4
  have c9_o26_5 : w9.cell? ⟨w7.heap.size, 5, none⟩ = some (.slice (some ⟨g225, 0, none⟩) k1 k1) := keepc hb' c8_o26_5
  clear c8_o26_5 ac8_o26_5
  have ac9_a0_0 := fun o => keepa o c9_a0_0
  have ac9_a0_1 := fun o => keepa o c9_a0_1
  have ac9_a0_2 := fun o => keepa o c9_a0_2
  have ac9_a1_0 := fun o => keepa o c9_a1_0
  have ac9_a1_1 := fun o => keepa o c9_a1_1
  have ac9_a1_2 := fun o => keepa o c9_a1_2
  have ac9_a1_3 := fun o => keepa o c9_a1_3
  have ac9_a1_4 := fun o => keepa o c9_a1_4
  have ac9_a1_5 := fun o => keepa o c9_a1_5
  have ac9_o20_0 := fun o => keepa o c9_o20_0
  have ac9_o20_1 := fun o => keepa o c9_o20_1
  have ac9_o20_2 := fun o => keepa o c9_o20_2
  have ac9_o26_0 := fun o => keepa o c9_o26_0
  have ac9_o26_1 := fun o => keepa o c9_o26_1
  have ac9_o26_2 := fun o => keepa o c9_o26_2
  have ac9_o26_3 := fun o => keepa o c9_o26_3
  have ac9_o26_4 := fun o => keepa o c9_o26_4
  have ac9_o26_5 := fun o => keepa o c9_o26_5
  have rP0 := P0.out.below hb'; clear P0; have P0 := Lib.hid rP0; clear rP0
  have rP1 := P1.out.below hb'; clear P1; have P1 := Lib.hid rP1; clear rP1
  have rFo20 := Fo20.out.below hb'; clear Fo20; have Fo20 := Lib.hid rFo20; clear rFo20
  have rFo26 := Fo26.out.below hb'; clear Fo26; have Fo26 := Lib.hid rFo26; clear rFo26
  have rB := below_chain B.out (by omega) hb'; clear B; have B := Lib.hid rB; clear rB
  have Fo28 := Lib.hid q9; clear q9
  have em9 : Below w8.heap.size w8 w9 := hb'
  clear hb hb'
  go_wp2_with fail
  refine hK _ _ ⟨⟨_, em9⟩, rfl⟩ ?_
  clear hK K
  refine Mix.wpMix_chg (by rfl) (fun K hK => ?_)
  go_wp2_with fail
  refine (eqMachine_t _ _ _ _ _ _ _ _ _ _ (by exact (Fo20.out.rd)) (by exact (Fo28.out.rd)) (by omega)).mono ?_
  rintro e w10 ⟨rfl, hb⟩
  have hb' : Below w9.heap.size w9 w10 := (by first | (with_reducible exact hb) | (with_reducible exact up1 hb) | (with_reducible exact up2 hb) | (with_reducible exact up3 hb) | (with_reducible exact up4 hb) | (with_reducible exact below_of_drew hb) | (with_reducible exact below_of_drew (up1 hb)))
  have z10 := hb'.size
  have c10_a0_0 : w10.cell? ⟨w.heap.size, 0, none⟩ = some (.int .i64 sy0) := keepc hb' c9_a0_0
  clear c9_a0_0 ac9_a0_0
  have c10_a0_1 : w10.cell? ⟨w.heap.size, 1, none⟩ = some (.int .i64 st0) := keepc hb' c9_a0_1
  clear c9_a0_1 ac9_a0_1
  have c10_a0_2 : w10.cell? ⟨w.heap.size, 2, none⟩ = some (.slice A0 n0 c0) := keepc hb' c9_a0_2
  clear c9_a0_2 ac9_a0_2
  have c10_a1_0 : w10.cell? ⟨(w.heap.size + 1), 0, none⟩ = some (.int .i64 st1) := keepc hb' c9_a1_0
  clear c9_a1_0 ac9_a1_0
  have c10_a1_1 : w10.cell? ⟨(w.heap.size + 1), 1, none⟩ = some (.int .i64 hd1) := keepc hb' c9_a1_1
  clear c9_a1_1 ac9_a1_1
  have c10_a1_2 : w10.cell? ⟨(w.heap.size + 1), 2, none⟩ = some (.int .i64 at1) := keepc hb' c9_a1_2
  clear c9_a1_2 ac9_a1_2
  have c10_a1_3 : w10.cell? ⟨(w.heap.size + 1), 3, none⟩ = some (.slice A1 n1 c1) := keepc hb' c9_a1_3
  clear c9_a1_3 ac9_a1_3
  have c10_a1_4 : w10.cell? ⟨(w.heap.size + 1), 4, none⟩ = some (.slice B1 m1 d1) := keepc hb' c9_a1_4
  clear c9_a1_4 ac9_a1_4
  have c10_a1_5 : w10.cell? ⟨(w.heap.size + 1), 5, none⟩ = some (.slice C1 k1 e1) := keepc hb' c9_a1_5
  clear c9_a1_5 ac9_a1_5
  have c10_o20_0 : w10.cell? ⟨w6.heap.size, 0, none⟩ = some (.int .i64 sy0) := keepc hb' c9_o20_0
  clear c9_o20_0 ac9_o20_0
  have c10_o20_1 : w10.cell? ⟨w6.heap.size, 1, none⟩ = some (.int .i64 st0) := keepc hb' c9_o20_1
  clear c9_o20_1 ac9_o20_1
  have c10_o20_2 : w10.cell? ⟨w6.heap.size, 2, none⟩ = some (.slice (some ⟨g019, 0, none⟩) n0 n0) := keepc hb' c9_o20_2
  clear c9_o20_2 ac9_o20_2
  have c10_o26_0 : w10.cell? ⟨w7.heap.size, 0, none⟩ = some (.int .i64 st1) := keepc hb' c9_o26_0
  clear c9_o26_0 ac9_o26_0
  have c10_o26_1 : w10.cell? ⟨w7.heap.size, 1, none⟩ = some (.int .i64 hd1) := keepc hb' c9_o26_1
  clear c9_o26_1 ac9_o26_1
  have c10_o26_2 : w10.cell? ⟨w7.heap.size, 2, none⟩ = some (.int .i64 at1) := keepc hb' c9_o26_2
  clear c9_o26_2 ac9_o26_2
  have c10_o26_3 : w10.cell? ⟨w7.heap.size, 3, none⟩ = some (.slice (some ⟨g021, 0, none⟩) n1 n1) := keepc hb' c9_o26_3
  clear c9_o26_3 ac9_o26_3
  have c10_o26_4 : w10.cell? ⟨w7.heap.size, 4, none⟩ = some (.slice (some ⟨g123, 0, none⟩) m1 m1) := keepc hb' c9_o26_4
  clear c9_o26_4 ac9_o26_4
  have c10_o26_5 : w10.cell? ⟨w7.heap.size, 5, none⟩ = some (.slice (some ⟨g225, 0, none⟩) k1 k1) := keepc hb' c9_o26_5
  clear c9_o26_5 ac9_o26_5
  have ac10_a0_0 := fun o => keepa o c10_a0_0
  have ac10_a0_1 := fun o => keepa o c10_a0_1
  have ac10_a0_2 := fun o => keepa o c10_a0_2
  have ac10_a1_0 := fun o => keepa o c10_a1_0
  have ac10_a1_1 := fun o => keepa o c10_a1_1
  have ac10_a1_2 := fun o => keepa o c10_a1_2
  have ac10_a1_3 := fun o => keepa o c10_a1_3
  have ac10_a1_4 := fun o => keepa o c10_a1_4
  have ac10_a1_5 := fun o => keepa o c10_a1_5
  have ac10_o20_0 := fun o => keepa o c10_o20_0
  have ac10_o20_1 := fun o => keepa o c10_o20_1
  have ac10_o20_2 := fun o => keepa o c10_o20_2
  have ac10_o26_0 := fun o => keepa o c10_o26_0
  have ac10_o26_1 := fun o => keepa o c10_o26_1
  have ac10_o26_2 := fun o => keepa o c10_o26_2
  have ac10_o26_3 := fun o => keepa o c10_o26_3
  have ac10_o26_4 := fun o => keepa o c10_o26_4
  have ac10_o26_5 := fun o => keepa o c10_o26_5
  have rP0 := P0.out.below hb'; clear P0; have P0 := Lib.hid rP0; clear rP0
  have rP1 := P1.out.below hb'; clear P1; have P1 := Lib.hid rP1; clear rP1
  have rFo20 := Fo20.out.below hb'; clear Fo20; have Fo20 := Lib.hid rFo20; clear rFo20
  have rFo26 := Fo26.out.below hb'; clear Fo26; have Fo26 := Lib.hid rFo26; clear rFo26
  have rFo28 := Fo28.out.below hb'; clear Fo28; have Fo28 := Lib.hid rFo28; clear rFo28
  have rB := below_chain B.out (by omega) hb'; clear B; have B := Lib.hid rB; clear rB
  have em10 : Below w8.heap.size w8 w10 := below_chain em9 (by omega) hb'
  clear hb hb'
  go_wp2_with fail
  refine hK _ _ ⟨⟨_, em10⟩, rfl⟩ ?_
  clear hK K
  repeat (first | (refine Mix.wpMix_read (by rfl) ?_; go_big_quiet_step (fail); refine wpQuiet_nil ?_) | (refine Mix.wpMix_pure (by rfl) ?_; go_big_quiet_step (fail); refine wpQuiet_nil ?_))
  (refine Mix.wpMix_nil ?_; try simp only [Exit.then])
  clear fx_c8_a0_0
  clear fx_c8_a0_1
  clear fx_c8_a0_2
  clear fx_c8_a1_0
  clear fx_c8_a1_1
  clear fx_c8_a1_2
  clear fx_c8_a1_3
  clear fx_c8_a1_4
  clear fx_c8_a1_5
  clear fx_c8_o20_0
  clear fx_c8_o20_1
  clear fx_c8_o20_2
  clear fx_c8_o26_0
  clear fx_c8_o26_1
  clear fx_c8_o26_2
  clear fx_c8_o26_3
  clear fx_c8_o26_4
  clear fx_c8_o26_5
  clear Fo28
  go_wp2_with fail
  have fx_c10_a0_0 := Ext.cell c10_a0_0
  have fx_c10_a0_1 := Ext.cell c10_a0_1
  have fx_c10_a0_2 := Ext.cell c10_a0_2
  have fx_c10_a1_0 := Ext.cell c10_a1_0
  have fx_c10_a1_1 := Ext.cell c10_a1_1
  have fx_c10_a1_2 := Ext.cell c10_a1_2
  have fx_c10_a1_3 := Ext.cell c10_a1_3
  have fx_c10_a1_4 := Ext.cell c10_a1_4
  have fx_c10_a1_5 := Ext.cell c10_a1_5
  have fx_c10_o20_0 := Ext.cell c10_o20_0
  have fx_c10_o20_1 := Ext.cell c10_o20_1
  have fx_c10_o20_2 := Ext.cell c10_o20_2
  have fx_c10_o26_0 := Ext.cell c10_o26_0
  have fx_c10_o26_1 := Ext.cell c10_o26_1
  have fx_c10_o26_2 := Ext.cell c10_o26_2
  have fx_c10_o26_3 := Ext.cell c10_o26_3
  have fx_c10_o26_4 := Ext.cell c10_o26_4
  have fx_c10_o26_5 := Ext.cell c10_o26_5
  refine Mix.wp_region_mix [3, 3, 1, 1, 0] (fun w' => ∃ x : Ext w10, w' = x.w) (by kernel_rfl) (by kernel_rfl) (InExt.drew _) ?_
  repeat (first | (refine Mix.wpMix_read (by rfl) ?_; go_big_quiet_step (fail); refine wpQuiet_nil ?_) | (refine Mix.wpMix_pure (by rfl) ?_; go_big_quiet_step (fail); refine wpQuiet_nil ?_))
  refine Mix.wpMix_chg (by rfl) (fun K hK => ?_)
  go_wp2_with fail
  refine (toFormula_c _ _ _ _ _ _ _ _ _ _ _ _ _ _ _ _ (by exact (P1.out.rd)) (by omega) (by omega) (by omega) hI0_a1 hI1_a1).mono ?_
  rintro e w11 ⟨g029, js030, g131, js132, g233, rfl, hx0_11, hx1_11, q11, hb⟩
  have hb' : Below w10.heap.size w10 w11 := (by first | (with_reducible exact hb) | (with_reducible exact up1 hb) | (with_reducible exact up2 hb) | (with_reducible exact up3 hb) | (with_reducible exact up4 hb) | (with_reducible exact below_of_drew hb) | (with_reducible exact below_of_drew (up1 hb)))
  have z11 := hb'.size
  have c11_a0_0 : w11.cell? ⟨w.heap.size, 0, none⟩ = some (.int .i64 sy0) := keepc hb' c10_a0_0
  clear c10_a0_0 ac10_a0_0
  have c11_a0_1 : w11.cell? ⟨w.heap.size, 1, none⟩ = some (.int .i64 st0) := keepc hb' c10_a0_1
  clear c10_a0_1 ac10_a0_1
  have c11_a0_2 : w11.cell? ⟨w.heap.size, 2, none⟩ = some (.slice A0 n0 c0) := keepc hb' c10_a0_2
  clear c10_a0_2 ac10_a0_2
  have c11_a1_0 : w11.cell? ⟨(w.heap.size + 1), 0, none⟩ = some (.int .i64 st1) := keepc hb' c10_a1_0
  clear c10_a1_0 ac10_a1_0
  have c11_a1_1 : w11.cell? ⟨(w.heap.size + 1), 1, none⟩ = some (.int .i64 hd1) := keepc hb' c10_a1_1
  clear c10_a1_1 ac10_a1_1
  have c11_a1_2 : w11.cell? ⟨(w.heap.size + 1), 2, none⟩ = some (.int .i64 at1) := keepc hb' c10_a1_2
  clear c10_a1_2 ac10_a1_2
  have c11_a1_3 : w11.cell? ⟨(w.heap.size + 1), 3, none⟩ = some (.slice A1 n1 c1) := keepc hb' c10_a1_3
  clear c10_a1_3 ac10_a1_3
  have c11_a1_4 : w11.cell? ⟨(w.heap.size + 1), 4, none⟩ = some (.slice B1 m1 d1) := keepc hb' c10_a1_4
  clear c10_a1_4 ac10_a1_4
  have c11_a1_5 : w11.cell? ⟨(w.heap.size + 1), 5, none⟩ = some (.slice C1 k1 e1) := keepc hb' c10_a1_5
  clear c10_a1_5 ac10_a1_5
  have c11_o20_0 : w11.cell? ⟨w6.heap.size, 0, none⟩ = some (.int .i64 sy0) := keepc hb' c10_o20_0
  clear c10_o20_0 ac10_o20_0
  have c11_o20_1 : w11.cell? ⟨w6.heap.size, 1, none⟩ = some (.int .i64 st0) := keepc hb' c10_o20_1
  clear c10_o20_1 ac10_o20_1
  have c11_o20_2 : w11.cell? ⟨w6.heap.size, 2, none⟩ = some (.slice (some ⟨g019, 0, none⟩) n0 n0) := keepc hb' c10_o20_2
  clear c10_o20_2 ac10_o20_2
  have c11_o26_0 : w11.cell? ⟨w7.heap.size, 0, none⟩ = some (.int .i64 st1) := keepc hb' c10_o26_0
  clear c10_o26_0 ac10_o26_0
  have c11_o26_1 : w11.cell? ⟨w7.heap.size, 1, none⟩ = some (.int .i64 hd1) := keepc hb' c10_o26_1
  clear c10_o26_1 ac10_o26_1
  have c11_o26_2 : w11.cell? ⟨w7.heap.size, 2, none⟩ = some (.int .i64 at1) := keepc hb' c10_o26_2
  clear c10_o26_2 ac10_o26_2
  have c11_o26_3 : w11.cell? ⟨w7.heap.size, 3, none⟩ = some (.slice (some ⟨g021, 0, none⟩) n1 n1) := keepc hb' c10_o26_3
  clear c10_o26_3 ac10_o26_3
  have c11_o26_4 : w11.cell? ⟨w7.heap.size, 4, none⟩ = some (.slice (some ⟨g123, 0, none⟩) m1 m1) := keepc hb' c10_o26_4
  clear c10_o26_4 ac10_o26_4
  have c11_o26_5 : w11.cell? ⟨w7.heap.size, 5, none⟩ = some (.slice (some ⟨g225, 0, none⟩) k1 k1) := keepc hb' c10_o26_5
  clear c10_o26_5 ac10_o26_5
  have ac11_a0_0 := fun o => keepa o c11_a0_0
  have ac11_a0_1 := fun o => keepa o c11_a0_1
  have ac11_a0_2 := fun o => keepa o c11_a0_2
  have ac11_a1_0 := fun o => keepa o c11_a1_0
  have ac11_a1_1 := fun o => keepa o c11_a1_1
  have ac11_a1_2 := fun o => keepa o c11_a1_2
  have ac11_a1_3 := fun o => keepa o c11_a1_3
  have ac11_a1_4 := fun o => keepa o c11_a1_4
  have ac11_a1_5 := fun o => keepa o c11_a1_5
  have ac11_o20_0 := fun o => keepa o c11_o20_0
  have ac11_o20_1 := fun o => keepa o c11_o20_1
  have ac11_o20_2 := fun o => keepa o c11_o20_2
  have ac11_o26_0 := fun o => keepa o c11_o26_0
  have ac11_o26_1 := fun o => keepa o c11_o26_1
  have ac11_o26_2 := fun o => keepa o c11_o26_2
  have ac11_o26_3 := fun o => keepa o c11_o26_3
  have ac11_o26_4 := fun o => keepa o c11_o26_4
  have ac11_o26_5 := fun o => keepa o c11_o26_5
  have rP0 := P0.out.below hb'; clear P0; have P0 := Lib.hid rP0; clear rP0
  have rP1 := P1.out.below hb'; clear P1; have P1 := Lib.hid rP1; clear rP1
  have rFo20 := Fo20.out.below hb'; clear Fo20; have Fo20 := Lib.hid rFo20; clear rFo20
  have rFo26 := Fo26.out.below hb'; clear Fo26; have Fo26 := Lib.hid rFo26; clear rFo26
  have rB := below_chain B.out (by omega) hb'; clear B; have B := Lib.hid rB; clear rB
  have Fo34 := Lib.hid q11; clear q11
  have hm0_o34 := hx0_11
  have hI0_o34 : ∀ t ∈ js030, t.n ≤ 1000000000 := hi_of ((P1.out.rd).left.left) ((Fo34.out.rd).left.left) hx0_11 hI0_a1
  have hSm0_o34 : sumN js030 ≤ sumN its1 := sum_of ((P1.out.rd).left.left) ((Fo34.out.rd).left.left) hx0_11
  have hm1_o34 := hx1_11
  have hI1_o34 : ∀ t ∈ js132, t.n ≤ 1000000000 := hi_of ((P1.out.rd).left.right) ((Fo34.out.rd).left.right) hx1_11 hI1_a1
  have hSm1_o34 : sumN js132 ≤ sumN jts1 := sum_of ((P1.out.rd).left.right) ((Fo34.out.rd).left.right) hx1_11
  have em11 : Below w10.heap.size w10 w11 := hb'
  clear hb hb'
  go_wp2_with fail
  refine hK _ _ ⟨⟨_, em11⟩, rfl⟩ ?_
  clear hK K
  refine Mix.wpMix_chg (by rfl) (fun K hK => ?_)
  go_wp2_with fail
  refine (eqFormula_t _ _ _ _ _ _ _ _ _ _ _ _ _ _ _ _ _ _ _ _ _ _ _ _ _ _ _ (by exact (Fo26.out.rd)) (by exact (Fo34.out.rd)) (by omega) (by omega) (by omega) hI0_o26 (hm0_o26.trans hm0_o34.symm) hI1_o26 (hm1_o26.trans hm1_o34.symm)).mono ?_
  rintro e w12 ⟨rfl, hb⟩
  have hb' : Below w11.heap.size w11 w12 := (by first | (with_reducible exact hb) | (with_reducible exact up1 hb) | (with_reducible exact up2 hb) | (with_reducible exact up3 hb) | (with_reducible exact up4 hb) | (with_reducible exact below_of_drew hb) | (with_reducible exact below_of_drew (up1 hb)))
  have z12 := hb'.size
  have c12_a0_0 : w12.cell? ⟨w.heap.size, 0, none⟩ = some (.int .i64 sy0) := keepc hb' c11_a0_0
  clear c11_a0_0 ac11_a0_0
  have c12_a0_1 : w12.cell? ⟨w.heap.size, 1, none⟩ = some (.int .i64 st0) := keepc hb' c11_a0_1
  clear c11_a0_1 ac11_a0_1
  have c12_a0_2 : w12.cell? ⟨w.heap.size, 2, none⟩ = some (.slice A0 n0 c0) := keepc hb' c11_a0_2
  clear c11_a0_2 ac11_a0_2
  have c12_a1_0 : w12.cell? ⟨(w.heap.size + 1), 0, none⟩ = some (.int .i64 st1) := keepc hb' c11_a1_0
  clear c11_a1_0 ac11_a1_0
  have c12_a1_1 : w12.cell? ⟨(w.heap.size + 1), 1, none⟩ = some (.int .i64 hd1) := keepc hb' c11_a1_1
  clear c11_a1_1 ac11_a1_1
  have c12_a1_2 : w12.cell? ⟨(w.heap.size + 1), 2, none⟩ = some (.int .i64 at1) := keepc hb' c11_a1_2
  clear c11_a1_2 ac11_a1_2
  have c12_a1_3 : w12.cell? ⟨(w.heap.size + 1), 3, none⟩ = some (.slice A1 n1 c1) := keepc hb' c11_a1_3
  clear c11_a1_3 ac11_a1_3
  have c12_a1_4 : w12.cell? ⟨(w.heap.size + 1), 4, none⟩ = some (.slice B1 m1 d1) := keepc hb' c11_a1_4
  clear c11_a1_4 ac11_a1_4
  have c12_a1_5 : w12.cell? ⟨(w.heap.size + 1), 5, none⟩ = some (.slice C1 k1 e1) := keepc hb' c11_a1_5
  clear c11_a1_5 ac11_a1_5
  have c12_o20_0 : w12.cell? ⟨w6.heap.size, 0, none⟩ = some (.int .i64 sy0) := keepc hb' c11_o20_0
  clear c11_o20_0 ac11_o20_0
  have c12_o20_1 : w12.cell? ⟨w6.heap.size, 1, none⟩ = some (.int .i64 st0) := keepc hb' c11_o20_1
  clear c11_o20_1 ac11_o20_1
  have c12_o20_2 : w12.cell? ⟨w6.heap.size, 2, none⟩ = some (.slice (some ⟨g019, 0, none⟩) n0 n0) := keepc hb' c11_o20_2
  clear c11_o20_2 ac11_o20_2
  have c12_o26_0 : w12.cell? ⟨w7.heap.size, 0, none⟩ = some (.int .i64 st1) := keepc hb' c11_o26_0
  clear c11_o26_0 ac11_o26_0
  have c12_o26_1 : w12.cell? ⟨w7.heap.size, 1, none⟩ = some (.int .i64 hd1) := keepc hb' c11_o26_1
  clear c11_o26_1 ac11_o26_1
  have c12_o26_2 : w12.cell? ⟨w7.heap.size, 2, none⟩ = some (.int .i64 at1) := keepc hb' c11_o26_2
  clear c11_o26_2 ac11_o26_2
  have c12_o26_3 : w12.cell? ⟨w7.heap.size, 3, none⟩ = some (.slice (some ⟨g021, 0, none⟩) n1 n1) := keepc hb' c11_o26_3
  clear c11_o26_3 ac11_o26_3
  have c12_o26_4 : w12.cell? ⟨w7.heap.size, 4, none⟩ = some (.slice (some ⟨g123, 0, none⟩) m1 m1) := keepc hb' c11_o26_4
  clear c11_o26_4 ac11_o26_4
  have c12_o26_5 : w12.cell? ⟨w7.heap.size, 5, none⟩ = some (.slice (some ⟨g225, 0, none⟩) k1 k1) := keepc hb' c11_o26_5
  clear c11_o26_5 ac11_o26_5
  have ac12_a0_0 := fun o => keepa o c12_a0_0
  have ac12_a0_1 := fun o => keepa o c12_a0_1
  have ac12_a0_2 := fun o => keepa o c12_a0_2
  have ac12_a1_0 := fun o => keepa o c12_a1_0
  have ac12_a1_1 := fun o => keepa o c12_a1_1
  have ac12_a1_2 := fun o => keepa o c12_a1_2
  have ac12_a1_3 := fun o => keepa o c12_a1_3
  have ac12_a1_4 := fun o => keepa o c12_a1_4
  have ac12_a1_5 := fun o => keepa o c12_a1_5
  have ac12_o20_0 := fun o => keepa o c12_o20_0
  have ac12_o20_1 := fun o => keepa o c12_o20_1
  have ac12_o20_2 := fun o => keepa o c12_o20_2
  have ac12_o26_0 := fun o => keepa o c12_o26_0
  have ac12_o26_1 := fun o => keepa o c12_o26_1
  have ac12_o26_2 := fun o => keepa o c12_o26_2
  have ac12_o26_3 := fun o => keepa o c12_o26_3
  have ac12_o26_4 := fun o => keepa o c12_o26_4
  have ac12_o26_5 := fun o => keepa o c12_o26_5
  have rP0 := P0.out.below hb'; clear P0; have P0 := Lib.hid rP0; clear rP0
  have rP1 := P1.out.below hb'; clear P1; have P1 := Lib.hid rP1; clear rP1
  have rFo20 := Fo20.out.below hb'; clear Fo20; have Fo20 := Lib.hid rFo20; clear rFo20
  have rFo26 := Fo26.out.below hb'; clear Fo26; have Fo26 := Lib.hid rFo26; clear rFo26
  have rFo34 := Fo34.out.below hb'; clear Fo34; have Fo34 := Lib.hid rFo34; clear rFo34
  have rB := below_chain B.out (by omega) hb'; clear B; have B := Lib.hid rB; clear rB
  have em12 : Below w10.heap.size w10 w12 := below_chain em11 (by omega) hb'
  clear hb hb'
  go_wp2_with fail
  refine hK _ _ ⟨⟨_, em12⟩, rfl⟩ ?_
  clear hK K
  repeat (first | (refine Mix.wpMix_read (by rfl) ?_; go_big_quiet_step (fail); refine wpQuiet_nil ?_) | (refine Mix.wpMix_pure (by rfl) ?_; go_big_quiet_step (fail); refine wpQuiet_nil ?_))
  (refine Mix.wpMix_nil ?_; try simp only [Exit.then])
  clear fx_c10_a0_0
  clear fx_c10_a0_1
  clear fx_c10_a0_2
  clear fx_c10_a1_0
  clear fx_c10_a1_1
  clear fx_c10_a1_2
  clear fx_c10_a1_3
  clear fx_c10_a1_4
  clear fx_c10_a1_5
  clear fx_c10_o20_0
  clear fx_c10_o20_1
  clear fx_c10_o20_2
  clear fx_c10_o26_0
  clear fx_c10_o26_1
  clear fx_c10_o26_2
  clear fx_c10_o26_3
  clear fx_c10_o26_4
  clear fx_c10_o26_5
  clear Fo34
  go_wp2
  go_ret
  exact ⟨rfl, B.out⟩
end Go.Proofs.YtfbmjlohdhogmaaDoor
