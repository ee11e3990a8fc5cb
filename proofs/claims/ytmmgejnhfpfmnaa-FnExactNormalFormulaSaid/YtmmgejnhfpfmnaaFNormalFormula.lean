/-
  FnExactNormalFormula returns true for every input: its walk, out of the contracts.
-/
import Derived.Test.YtmmgejnhfpfmnaaLawMachine
import Derived.Test.YtmmgejnhfpfmnaaLawFormula
import Derived.Test.YtmmgejnhfpfmnaaNfM
import Derived.Test.YtmmgejnhfpfmnaaMixF
import Derived.Test.YtmmgejnhfpfmnaaOpen
import Derived.Deep.DeepCutAuto
namespace Go.Proofs.Ytmmgejnhfpfmnaa
open Go.RowKit

set_option maxHeartbeats 4000000 in
set_option maxRecDepth 100000 in
theorem walkNormalFormula (sy0 : Int) (st0 : Int) (A0 : Option Addr) (n0 : Nat) (c0 : Nat) (xs0 : List (Int × Int × Int)) (st1 : Int) (hd1 : Int) (at1 : Int) (A1 : Option Addr) (n1 : Nat) (c1 : Nat) (its1 : List It) (B1 : Option Addr) (m1 : Nat) (d1 : Nat) (jts1 : List It) (C1 : Option Addr) (k1 : Nat) (e1 : Nat) (xs1 : List Int) (w : World) (h0 : RdS w [sgX enc3 3 A0 n0 xs0]) (hb0_0 : n0 ≤ 9223372036854775807) (_o0 : i64ok sy0) (_p0 : i64ok st0) (_oo0 : ∀ x ∈ xs0, i64ok x.1 ∧ i64ok x.2.1 ∧ i64ok x.2.2) (h1 : RdS w (sgII A1 n1 its1 ++ sgII B1 m1 jts1 ++ [sgI C1 k1 xs1])) (hb1_0 : n1 ≤ 9223372036854775807) (hb1_1 : m1 ≤ 9223372036854775807) (hb1_2 : k1 ≤ 9223372036854775807) (hj1_0 : ∀ t ∈ its1, t.n ≤ 9223372036854775807) (hj1_1 : ∀ t ∈ jts1, t.n ≤ 9223372036854775807) (_o1 : i64ok st1) (_p1 : i64ok hd1) (_q1 : i64ok at1) (_oo1 : ∀ x ∈ xs1, i64ok x) :
    Calls Try.prog 6 #[.agg #[.int .i64 sy0, .int .i64 st0, .slice A0 n0 c0], .agg #[.int .i64 st1, .int .i64 hd1, .int .i64 at1, .slice A1 n1 c1, .slice B1 m1 d1, .slice C1 k1 e1]] w fun e w' => e = .returned (.bool true) ∧ Below w.heap.size w w' := by
  have P0 := Lib.hid (RdSU.mk' h0); clear h0
  have P1 := Lib.hid (RdSU.mk' h1); clear h1
  obtain ⟨RR, hRR⟩ : ∃ RR, nfR sy0 st0 xs0 st1 hd1 at1 (its1.map It.xs) (jts1.map It.xs) xs1 = RR := ⟨_, rfl⟩; have HRR := Lib.hid hRR; clear hRR
  go_enter Try.func6, Try.ntmps6
  go_wp2_with fail
  refine (szMachine_c _ _ _ _ _ xs0 _ _ hb0_0 (by omega) (by omega)).mono ?_
  rintro e w1 ⟨rfl, hb⟩
  have hb' : Below w.heap.size w w1 := (by first | (with_reducible exact hb) | (with_reducible exact up1 hb) | (with_reducible exact up2 hb) | (with_reducible exact up3 hb) | (with_reducible exact up4 hb) | (with_reducible exact below_of_drew hb) | (with_reducible exact below_of_drew (up1 hb)))
  have z1 := hb'.size
  have c1_a0_0 : w1.cell? ⟨w.heap.size, 0, none⟩ = some (.int .i64 sy0) := keepc hb (by first | (simp; done) | (rw [World.cell?_alloc_past _ _ _ (by simp <;> omega)]; simp; done) | (rw [World.cell?_alloc_past _ _ _ (by simp <;> omega), World.cell?_alloc_past _ _ _ (by simp <;> omega)]; simp; done) | (rw [World.cell?_alloc_past _ _ _ (by simp <;> omega), World.cell?_alloc_past _ _ _ (by simp <;> omega), World.cell?_alloc_past _ _ _ (by simp <;> omega)]; simp; done) | (rw [World.cell?_alloc_at _ _ _ _ (by simp)]; simp; done) | (rw [World.cell?_alloc_past _ _ _ (by simp <;> omega), World.cell?_alloc_at _ _ _ _ (by simp)]; simp; done) | (rw [World.cell?_alloc_past _ _ _ (by simp <;> omega), World.cell?_alloc_past _ _ _ (by simp <;> omega), World.cell?_alloc_at _ _ _ _ (by simp)]; simp; done) | (rw [World.cell?_alloc_past _ _ _ (by simp <;> omega), World.cell?_alloc_past _ _ _ (by simp <;> omega), World.cell?_alloc_past _ _ _ (by simp <;> omega), World.cell?_alloc_at _ _ _ _ (by simp)]; simp; done))
  have hl_c1_a0_0 : w.heap.size < w1.heap.size := World.block_lt_of_cell? w1 _ c1_a0_0
  have c1_a0_1 : w1.cell? ⟨w.heap.size, 1, none⟩ = some (.int .i64 st0) := keepc hb (by first | (simp; done) | (rw [World.cell?_alloc_past _ _ _ (by simp <;> omega)]; simp; done) | (rw [World.cell?_alloc_past _ _ _ (by simp <;> omega), World.cell?_alloc_past _ _ _ (by simp <;> omega)]; simp; done) | (rw [World.cell?_alloc_past _ _ _ (by simp <;> omega), World.cell?_alloc_past _ _ _ (by simp <;> omega), World.cell?_alloc_past _ _ _ (by simp <;> omega)]; simp; done) | (rw [World.cell?_alloc_at _ _ _ _ (by simp)]; simp; done) | (rw [World.cell?_alloc_past _ _ _ (by simp <;> omega), World.cell?_alloc_at _ _ _ _ (by simp)]; simp; done) | (rw [World.cell?_alloc_past _ _ _ (by simp <;> omega), World.cell?_alloc_past _ _ _ (by simp <;> omega), World.cell?_alloc_at _ _ _ _ (by simp)]; simp; done) | (rw [World.cell?_alloc_past _ _ _ (by simp <;> omega), World.cell?_alloc_past _ _ _ (by simp <;> omega), World.cell?_alloc_past _ _ _ (by simp <;> omega), World.cell?_alloc_at _ _ _ _ (by simp)]; simp; done))
  have c1_a0_2 : w1.cell? ⟨w.heap.size, 2, none⟩ = some (.slice A0 n0 c0) := keepc hb (by first | (simp; done) | (rw [World.cell?_alloc_past _ _ _ (by simp <;> omega)]; simp; done) | (rw [World.cell?_alloc_past _ _ _ (by simp <;> omega), World.cell?_alloc_past _ _ _ (by simp <;> omega)]; simp; done) | (rw [World.cell?_alloc_past _ _ _ (by simp <;> omega), World.cell?_alloc_past _ _ _ (by simp <;> omega), World.cell?_alloc_past _ _ _ (by simp <;> omega)]; simp; done) | (rw [World.cell?_alloc_at _ _ _ _ (by simp)]; simp; done) | (rw [World.cell?_alloc_past _ _ _ (by simp <;> omega), World.cell?_alloc_at _ _ _ _ (by simp)]; simp; done) | (rw [World.cell?_alloc_past _ _ _ (by simp <;> omega), World.cell?_alloc_past _ _ _ (by simp <;> omega), World.cell?_alloc_at _ _ _ _ (by simp)]; simp; done) | (rw [World.cell?_alloc_past _ _ _ (by simp <;> omega), World.cell?_alloc_past _ _ _ (by simp <;> omega), World.cell?_alloc_past _ _ _ (by simp <;> omega), World.cell?_alloc_at _ _ _ _ (by simp)]; simp; done))
  have c1_a1_0 : w1.cell? ⟨(w.heap.size + 1), 0, none⟩ = some (.int .i64 st1) := keepc hb (by first | (simp; done) | (rw [World.cell?_alloc_past _ _ _ (by simp <;> omega)]; simp; done) | (rw [World.cell?_alloc_past _ _ _ (by simp <;> omega), World.cell?_alloc_past _ _ _ (by simp <;> omega)]; simp; done) | (rw [World.cell?_alloc_past _ _ _ (by simp <;> omega), World.cell?_alloc_past _ _ _ (by simp <;> omega), World.cell?_alloc_past _ _ _ (by simp <;> omega)]; simp; done) | (rw [World.cell?_alloc_at _ _ _ _ (by simp)]; simp; done) | (rw [World.cell?_alloc_past _ _ _ (by simp <;> omega), World.cell?_alloc_at _ _ _ _ (by simp)]; simp; done) | (rw [World.cell?_alloc_past _ _ _ (by simp <;> omega), World.cell?_alloc_past _ _ _ (by simp <;> omega), World.cell?_alloc_at _ _ _ _ (by simp)]; simp; done) | (rw [World.cell?_alloc_past _ _ _ (by simp <;> omega), World.cell?_alloc_past _ _ _ (by simp <;> omega), World.cell?_alloc_past _ _ _ (by simp <;> omega), World.cell?_alloc_at _ _ _ _ (by simp)]; simp; done))
  have hl_c1_a1_0 : (w.heap.size + 1) < w1.heap.size := World.block_lt_of_cell? w1 _ c1_a1_0
  have c1_a1_1 : w1.cell? ⟨(w.heap.size + 1), 1, none⟩ = some (.int .i64 hd1) := keepc hb (by first | (simp; done) | (rw [World.cell?_alloc_past _ _ _ (by simp <;> omega)]; simp; done) | (rw [World.cell?_alloc_past _ _ _ (by simp <;> omega), World.cell?_alloc_past _ _ _ (by simp <;> omega)]; simp; done) | (rw [World.cell?_alloc_past _ _ _ (by simp <;> omega), World.cell?_alloc_past _ _ _ (by simp <;> omega), World.cell?_alloc_past _ _ _ (by simp <;> omega)]; simp; done) | (rw [World.cell?_alloc_at _ _ _ _ (by simp)]; simp; done) | (rw [World.cell?_alloc_past _ _ _ (by simp <;> omega), World.cell?_alloc_at _ _ _ _ (by simp)]; simp; done) | (rw [World.cell?_alloc_past _ _ _ (by simp <;> omega), World.cell?_alloc_past _ _ _ (by simp <;> omega), World.cell?_alloc_at _ _ _ _ (by simp)]; simp; done) | (rw [World.cell?_alloc_past _ _ _ (by simp <;> omega), World.cell?_alloc_past _ _ _ (by simp <;> omega), World.cell?_alloc_past _ _ _ (by simp <;> omega), World.cell?_alloc_at _ _ _ _ (by simp)]; simp; done))
  have c1_a1_2 : w1.cell? ⟨(w.heap.size + 1), 2, none⟩ = some (.int .i64 at1) := keepc hb (by first | (simp; done) | (rw [World.cell?_alloc_past _ _ _ (by simp <;> omega)]; simp; done) | (rw [World.cell?_alloc_past _ _ _ (by simp <;> omega), World.cell?_alloc_past _ _ _ (by simp <;> omega)]; simp; done) | (rw [World.cell?_alloc_past _ _ _ (by simp <;> omega), World.cell?_alloc_past _ _ _ (by simp <;> omega), World.cell?_alloc_past _ _ _ (by simp <;> omega)]; simp; done) | (rw [World.cell?_alloc_at _ _ _ _ (by simp)]; simp; done) | (rw [World.cell?_alloc_past _ _ _ (by simp <;> omega), World.cell?_alloc_at _ _ _ _ (by simp)]; simp; done) | (rw [World.cell?_alloc_past _ _ _ (by simp <;> omega), World.cell?_alloc_past _ _ _ (by simp <;> omega), World.cell?_alloc_at _ _ _ _ (by simp)]; simp; done) | (rw [World.cell?_alloc_past _ _ _ (by simp <;> omega), World.cell?_alloc_past _ _ _ (by simp <;> omega), World.cell?_alloc_past _ _ _ (by simp <;> omega), World.cell?_alloc_at _ _ _ _ (by simp)]; simp; done))
  have c1_a1_3 : w1.cell? ⟨(w.heap.size + 1), 3, none⟩ = some (.slice A1 n1 c1) := keepc hb (by first | (simp; done) | (rw [World.cell?_alloc_past _ _ _ (by simp <;> omega)]; simp; done) | (rw [World.cell?_alloc_past _ _ _ (by simp <;> omega), World.cell?_alloc_past _ _ _ (by simp <;> omega)]; simp; done) | (rw [World.cell?_alloc_past _ _ _ (by simp <;> omega), World.cell?_alloc_past _ _ _ (by simp <;> omega), World.cell?_alloc_past _ _ _ (by simp <;> omega)]; simp; done) | (rw [World.cell?_alloc_at _ _ _ _ (by simp)]; simp; done) | (rw [World.cell?_alloc_past _ _ _ (by simp <;> omega), World.cell?_alloc_at _ _ _ _ (by simp)]; simp; done) | (rw [World.cell?_alloc_past _ _ _ (by simp <;> omega), World.cell?_alloc_past _ _ _ (by simp <;> omega), World.cell?_alloc_at _ _ _ _ (by simp)]; simp; done) | (rw [World.cell?_alloc_past _ _ _ (by simp <;> omega), World.cell?_alloc_past _ _ _ (by simp <;> omega), World.cell?_alloc_past _ _ _ (by simp <;> omega), World.cell?_alloc_at _ _ _ _ (by simp)]; simp; done))
  have c1_a1_4 : w1.cell? ⟨(w.heap.size + 1), 4, none⟩ = some (.slice B1 m1 d1) := keepc hb (by first | (simp; done) | (rw [World.cell?_alloc_past _ _ _ (by simp <;> omega)]; simp; done) | (rw [World.cell?_alloc_past _ _ _ (by simp <;> omega), World.cell?_alloc_past _ _ _ (by simp <;> omega)]; simp; done) | (rw [World.cell?_alloc_past _ _ _ (by simp <;> omega), World.cell?_alloc_past _ _ _ (by simp <;> omega), World.cell?_alloc_past _ _ _ (by simp <;> omega)]; simp; done) | (rw [World.cell?_alloc_at _ _ _ _ (by simp)]; simp; done) | (rw [World.cell?_alloc_past _ _ _ (by simp <;> omega), World.cell?_alloc_at _ _ _ _ (by simp)]; simp; done) | (rw [World.cell?_alloc_past _ _ _ (by simp <;> omega), World.cell?_alloc_past _ _ _ (by simp <;> omega), World.cell?_alloc_at _ _ _ _ (by simp)]; simp; done) | (rw [World.cell?_alloc_past _ _ _ (by simp <;> omega), World.cell?_alloc_past _ _ _ (by simp <;> omega), World.cell?_alloc_past _ _ _ (by simp <;> omega), World.cell?_alloc_at _ _ _ _ (by simp)]; simp; done))
  have c1_a1_5 : w1.cell? ⟨(w.heap.size + 1), 5, none⟩ = some (.slice C1 k1 e1) := keepc hb (by first | (simp; done) | (rw [World.cell?_alloc_past _ _ _ (by simp <;> omega)]; simp; done) | (rw [World.cell?_alloc_past _ _ _ (by simp <;> omega), World.cell?_alloc_past _ _ _ (by simp <;> omega)]; simp; done) | (rw [World.cell?_alloc_past _ _ _ (by simp <;> omega), World.cell?_alloc_past _ _ _ (by simp <;> omega), World.cell?_alloc_past _ _ _ (by simp <;> omega)]; simp; done) | (rw [World.cell?_alloc_at _ _ _ _ (by simp)]; simp; done) | (rw [World.cell?_alloc_past _ _ _ (by simp <;> omega), World.cell?_alloc_at _ _ _ _ (by simp)]; simp; done) | (rw [World.cell?_alloc_past _ _ _ (by simp <;> omega), World.cell?_alloc_past _ _ _ (by simp <;> omega), World.cell?_alloc_at _ _ _ _ (by simp)]; simp; done) | (rw [World.cell?_alloc_past _ _ _ (by simp <;> omega), World.cell?_alloc_past _ _ _ (by simp <;> omega), World.cell?_alloc_past _ _ _ (by simp <;> omega), World.cell?_alloc_at _ _ _ _ (by simp)]; simp; done))
  have ac1_a0_0 := fun o => keepa o c1_a0_0
  have ac1_a0_1 := fun o => keepa o c1_a0_1
  have ac1_a0_2 := fun o => keepa o c1_a0_2
  have ac1_a1_0 := fun o => keepa o c1_a1_0
  have ac1_a1_1 := fun o => keepa o c1_a1_1
  have ac1_a1_2 := fun o => keepa o c1_a1_2
  have ac1_a1_3 := fun o => keepa o c1_a1_3
  have ac1_a1_4 := fun o => keepa o c1_a1_4
  have ac1_a1_5 := fun o => keepa o c1_a1_5
  have rP0 := P0.out.below hb'; clear P0; have P0 := Lib.hid rP0; clear rP0
  have rP1 := P1.out.below hb'; clear P1; have P1 := Lib.hid rP1; clear rP1
  have rB := hb'; have B := Lib.hid rB; clear rB
  clear hb hb'
  by_cases hs1 : 1048576 < n0
  · rw [szOf_neg' (by omega)]
    go_wp2
    go_ret
    exact ⟨rfl, B.out⟩
  rw [szOf_pos' (by omega)]
  have hs1' : (0 : Int) ≤ 1048576 - (n0 : Nat) := by omega
  go_wp2_with fail
  refine (szFormula_c _ _ _ _ _ _ its1 _ _ _ jts1 _ _ _ xs1 _ _ (by exact (P1.out.rd)) hb1_0 hb1_1 hb1_2 hj1_0 hj1_1 (by omega) (by omega)).mono ?_
  rintro e w2 ⟨rfl, hb⟩
  have hb' : Below w1.heap.size w1 w2 := (by first | (with_reducible exact hb) | (with_reducible exact up1 hb) | (with_reducible exact up2 hb) | (with_reducible exact up3 hb) | (with_reducible exact up4 hb) | (with_reducible exact below_of_drew hb) | (with_reducible exact below_of_drew (up1 hb)))
  have z2 := hb'.size
  have c2_a0_0 : w2.cell? ⟨w.heap.size, 0, none⟩ = some (.int .i64 sy0) := keepc hb' c1_a0_0
  clear c1_a0_0 ac1_a0_0
  have c2_a0_1 : w2.cell? ⟨w.heap.size, 1, none⟩ = some (.int .i64 st0) := keepc hb' c1_a0_1
  clear c1_a0_1 ac1_a0_1
  have c2_a0_2 : w2.cell? ⟨w.heap.size, 2, none⟩ = some (.slice A0 n0 c0) := keepc hb' c1_a0_2
  clear c1_a0_2 ac1_a0_2
  have c2_a1_0 : w2.cell? ⟨(w.heap.size + 1), 0, none⟩ = some (.int .i64 st1) := keepc hb' c1_a1_0
  clear c1_a1_0 ac1_a1_0
  have c2_a1_1 : w2.cell? ⟨(w.heap.size + 1), 1, none⟩ = some (.int .i64 hd1) := keepc hb' c1_a1_1
  clear c1_a1_1 ac1_a1_1
  have c2_a1_2 : w2.cell? ⟨(w.heap.size + 1), 2, none⟩ = some (.int .i64 at1) := keepc hb' c1_a1_2
  clear c1_a1_2 ac1_a1_2
  have c2_a1_3 : w2.cell? ⟨(w.heap.size + 1), 3, none⟩ = some (.slice A1 n1 c1) := keepc hb' c1_a1_3
  clear c1_a1_3 ac1_a1_3
  have c2_a1_4 : w2.cell? ⟨(w.heap.size + 1), 4, none⟩ = some (.slice B1 m1 d1) := keepc hb' c1_a1_4
  clear c1_a1_4 ac1_a1_4
  have c2_a1_5 : w2.cell? ⟨(w.heap.size + 1), 5, none⟩ = some (.slice C1 k1 e1) := keepc hb' c1_a1_5
  clear c1_a1_5 ac1_a1_5
  have ac2_a0_0 := fun o => keepa o c2_a0_0
  have ac2_a0_1 := fun o => keepa o c2_a0_1
  have ac2_a0_2 := fun o => keepa o c2_a0_2
  have ac2_a1_0 := fun o => keepa o c2_a1_0
  have ac2_a1_1 := fun o => keepa o c2_a1_1
  have ac2_a1_2 := fun o => keepa o c2_a1_2
  have ac2_a1_3 := fun o => keepa o c2_a1_3
  have ac2_a1_4 := fun o => keepa o c2_a1_4
  have ac2_a1_5 := fun o => keepa o c2_a1_5
  have rP0 := P0.out.below hb'; clear P0; have P0 := Lib.hid rP0; clear rP0
  have rP1 := P1.out.below hb'; clear P1; have P1 := Lib.hid rP1; clear rP1
  have rB := below_chain B.out (by omega) hb'; clear B; have B := Lib.hid rB; clear rB
  clear hb hb'
  by_cases hs2 : 1048576 - (n0 : Nat) < (n1 + sumN its1 + (m1 + sumN jts1) + k1)
  · rw [szOf_neg' (by omega)]
    go_wp2
    go_ret
    exact ⟨rfl, B.out⟩
  rw [szOf_pos' (by omega)]
  have hs2' : (0 : Int) ≤ 1048576 - (n0 : Nat) - ((n1 + sumN its1 + (m1 + sumN jts1) + k1) : Nat) := by omega
  have hI0_a1 : ∀ t ∈ its1, t.n ≤ 1000000000 := fun t ht => by have := sumN_mem ht; omega
  have hI1_a1 : ∀ t ∈ jts1, t.n ≤ 1000000000 := fun t ht => by have := sumN_mem ht; omega
  go_wp2_with fail
  go_cut [6, 7] (fun v0 v1 wx => ∃ (g22 : Nat) (A11 : Option Addr) (n12 : Nat) (c13 : Nat) (its14 : List It) (B15 : Option Addr) (m16 : Nat) (d17 : Nat) (jts18 : List It) (C19 : Option Addr) (k20 : Nat) (e21 : Nat), v0 = .pointer (some ⟨g22, 0, none⟩) ∧ v1 = .int .i64 RR.2 ∧ wx.cell? ⟨g22, 0, none⟩ = some (.int .i64 RR.1.1) ∧ wx.cell? ⟨g22, 1, none⟩ = some (.int .i64 RR.1.2.1) ∧ wx.cell? ⟨g22, 2, none⟩ = some (.int .i64 RR.1.2.2.1) ∧ wx.cell? ⟨g22, 3, none⟩ = some (.slice A11 n12 c13) ∧ wx.cell? ⟨g22, 4, none⟩ = some (.slice B15 m16 d17) ∧ wx.cell? ⟨g22, 5, none⟩ = some (.slice C19 k20 e21) ∧ WrS wx w2.heap.size wx.heap.size (sgII A11 n12 its14 ++ sgII B15 m16 jts18 ++ [sgI C19 k20 (RR.1).2.2.2.2.2]) ∧ (n12 ≤ 1000 ∧ m16 ≤ 1000 ∧ k20 ≤ 1000 ∧ (∀ t ∈ its14, t.n ≤ 100000) ∧ sumN its14 ≤ 100000000 ∧ its14.map It.xs = (RR.1).2.2.2.1 ∧ (∀ t ∈ jts18, t.n ≤ 100000) ∧ sumN jts18 ≤ 100000000 ∧ jts18.map It.xs = (RR.1).2.2.2.2.1) ∧ w2.heap.size ≤ g22 ∧ Below w2.heap.size w2 wx)
  case first =>
    have fx_c2_a0_0 := Ext.cell c2_a0_0
    have fx_c2_a0_1 := Ext.cell c2_a0_1
    have fx_c2_a0_2 := Ext.cell c2_a0_2
    have fx_c2_a1_0 := Ext.cell c2_a1_0
    have fx_c2_a1_1 := Ext.cell c2_a1_1
    have fx_c2_a1_2 := Ext.cell c2_a1_2
    have fx_c2_a1_3 := Ext.cell c2_a1_3
    have fx_c2_a1_4 := Ext.cell c2_a1_4
    have fx_c2_a1_5 := Ext.cell c2_a1_5
    refine Mix.wp_region_mixF 8 [3, 1, 3, 1, 1, 0, 0, 0, 1, 2, 0] (fun w' => ∃ x : Ext w2, w' = x.w) (by kernel_rfl) (by kernel_rfl) (InExt.drew _) _ _ (by rfl) ?_
    simp only [List.take_succ_cons, List.take_zero, List.drop_succ_cons, List.drop_zero]
    have e0 : Below w2.heap.size w2 w2.drew := InExt.out (InExt.drew _)
    refine Mix.wpF_3 ?_
    (refine Mix.wpMix_read (by rfl) ?_; go_big_quiet_step (fail); refine wpQuiet_nil ?_)
    refine Mix.wpMix_nil ?_
    refine Mix.wpF_1 ?_ ?_
    · simp only [List.cons_append, List.nil_append]
      have e0p := e0
      refine Mix.wpMix_chg (by rfl) (fun K hK => ?_)
      go_wp2_with fail
      refine hK _ _ ⟨⟨_, e0.alloc e0.size _⟩, rfl⟩ ?_
      clear hK K
      have bk : Blk (w2.drew.alloc (.cells #[.int .i64 0, .int .i64 0, .int .i64 0, .slice none 0 0, .slice none 0 0, .slice none 0 0] 29)) w2.heap.size 29 #[.int .i64 0, .int .i64 0, .int .i64 0, .slice none 0 0, .slice none 0 0, .slice none 0 0] := Blk.new _ _ _
      have e0 := e0.alloc e0.size (.cells #[.int .i64 0, .int .i64 0, .int .i64 0, .slice none 0 0, .slice none 0 0, .slice none 0 0] 29)
      refine Mix.wpMix_chg (by rfl) (fun K hK => ?_)
      go_wp2_with fail
      refine (toMachine_c _ _ _ _ _ _ _ (by exact ((P0.out.rd).below e0)) (by omega)).mono ?_
      rintro e ua11 ⟨g025, rfl, q26, hb⟩
      try simp only [World.size_alloc] at q26
      have e0 := below_chain e0 e0.size hb
      have bk := bk.keep hb
      have e_q26 : Below ua11.heap.size ua11 ua11 := below_size
      have zua11 : w2.heap.size + 1 ≤ ua11.heap.size := by first | exact hb.size | exact Nat.le_trans (Nat.le_of_eq (World.size_alloc ..).symm) hb.size
      clear hb
      go_wp2_with fail
      refine hK _ _ ⟨⟨_, e0⟩, rfl⟩ ?_
      clear hK K
      (refine Mix.wpMix_read (by rfl) ?_; go_big_quiet_step (fail); refine wpQuiet_nil ?_)
      refine Mix.wpMix_chg (by rfl) (fun K hK => ?_)
      go_wp2_with fail
      refine (toFormula_c _ _ _ _ _ _ _ _ _ _ _ _ _ _ _ _ (by exact ((P1.out.rd).below e0)) (by omega) (by omega) (by omega) hI0_a1 hI1_a1).mono ?_
      rintro e ua13 ⟨g027, js028, g129, js130, g231, rfl, hx33, hx34, q32, hb⟩
      try simp only [World.size_alloc] at q32
      have hI_hx33 : ∀ t ∈ js028, t.n ≤ 1000000000 := hi_of ((((P1.out.rd).below e0)).left.left) (((q32).rd).left.left) hx33 hI0_a1
      have hx33h := Lib.hid hx33; clear hx33
      have hI_hx34 : ∀ t ∈ js130, t.n ≤ 1000000000 := hi_of ((((P1.out.rd).below e0)).left.right) (((q32).rd).left.right) hx34 hI1_a1
      have hx34h := Lib.hid hx34; clear hx34
      have e_q26 := below_chain e_q26 e_q26.size hb
      have e0 := below_chain e0 e0.size hb
      have bk := bk.keep hb
      have e_q32 : Below ua13.heap.size ua13 ua13 := below_size
      have zua13 : ua11.heap.size ≤ ua13.heap.size := by first | exact hb.size | exact Nat.le_trans (Nat.le_of_eq (World.size_alloc ..).symm) hb.size
      clear hb
      go_wp2_with fail
      refine hK _ _ ⟨⟨_, e0⟩, rfl⟩ ?_
      clear hK K
      refine Mix.wpMix_chg (by rfl) (fun K hK => ?_)
      go_wp2_with fail
      refine (sNormalFormula_c _ _ _ _ _ _ _ _ _ _ _ _ _ _ _ _ _ _ _ _ _ _ (by exact (q26.below e_q26).rd) (by exact (q32.below e_q32).rd) (by omega) (by omega) (by omega) (by omega) hI_hx33 hI_hx34 hx33h.out hx34h.out HRR.out).mono ?_
      rintro e ua14 ⟨A11, n12, c13, its14, B15, m16, d17, jts18, C19, k20, e21, rfl, q23, l24, hb⟩
      have e_q26 := below_chain e_q26 e_q26.size hb
      have e_q32 := below_chain e_q32 e_q32.size hb
      have e0 := below_chain e0 e0.size hb
      have bk := bk.keep hb
      have e_q23 : Below ua14.heap.size ua14 ua14 := below_size
      have zua14 : ua13.heap.size ≤ ua14.heap.size := by first | exact hb.size | exact Nat.le_trans (Nat.le_of_eq (World.size_alloc ..).symm) hb.size
      have q23 : WrS ua14 (ua13.heap.size) ua14.heap.size (sgII A11 n12 its14 ++ sgII B15 m16 jts18 ++ [sgI C19 k20 (RR.1).2.2.2.2.2]) := by first | exact q23.wider (Nat.le_refl _) (Nat.le_refl _) | exact q23.wider (Nat.le_of_eq (World.size_alloc ..).symm) (Nat.le_refl _)
      clear hb
      go_wp2_with fail
      refine hK _ _ ⟨⟨_, e0⟩, rfl⟩ ?_
      clear hK K
      (refine Mix.wpMix_pure (by rfl) ?_; go_big_quiet_step (fail); refine wpQuiet_nil ?_)
      (refine Mix.wpMix_pure (by rfl) ?_; go_big_quiet_step (fail); refine wpQuiet_nil ?_)
      (refine Mix.wpMix_pure (by rfl) ?_; go_big_quiet_step (fail); refine wpQuiet_nil ?_)
      repeat (first | (refine Mix.wpMix_read (by rfl) ?_; go_big_quiet_step (fail); refine wpQuiet_nil ?_) | (refine Mix.wpMix_pure (by rfl) ?_; go_big_quiet_step (fail); refine wpQuiet_nil ?_))
      have d0 := bk.cell 0; have f0 := bk.frozen 0
      simp at d0
      have d1 := bk.cell 1; have f1 := bk.frozen 1
      simp at d1
      have d2 := bk.cell 2; have f2 := bk.frozen 2
      simp at d2
      have d3 := bk.cell 3; have f3 := bk.frozen 3
      simp at d3
      have d4 := bk.cell 4; have f4 := bk.frozen 4
      simp at d4
      have d5 := bk.cell 5; have f5 := bk.frozen 5
      simp at d5
      refine Mix.wpMix_tail (by rfl) (fun K hK => ?_)
      go_wp2_with fail
      refine hK _ _ ?_
      clear hK K
      repeat (first | (refine Mix.wpMix_read (by rfl) ?_; go_big_quiet_step (fail); refine wpQuiet_nil ?_) | (refine Mix.wpMix_pure (by rfl) ?_; go_big_quiet_step (fail); refine wpQuiet_nil ?_))
      (refine Mix.wpMix_nil ?_; try simp only [Exit.then])
      go_wp2_with fail
      go_meet
      have bk2 := ((((((bk.set_ 0 (.int .i64 RR.1.1)).set_ 1 (.int .i64 RR.1.2.1)).set_ 2 (.int .i64 RR.1.2.2.1)).set_ 3 (.slice A11 n12 c13)).set_ 4 (.slice B15 m16 d17)).set_ 5 (.slice C19 k20 e21))
      have bk3 := bk2
      simp only [List.setIfInBounds_toArray, List.set_cons_succ, List.set_cons_zero] at bk3
      refine ⟨w2.heap.size, A11, n12, c13, its14, B15, m16, d17, jts18, C19, k20, e21, rfl, rfl, (by first | ((with_reducible refine Eq.trans (new_cell _ _ _ 0) ?_); rfl) | exact bk3.cell 0), (by first | ((with_reducible refine Eq.trans (new_cell _ _ _ 1) ?_); rfl) | exact bk3.cell 1), (by first | ((with_reducible refine Eq.trans (new_cell _ _ _ 2) ?_); rfl) | exact bk3.cell 2), (by first | ((with_reducible refine Eq.trans (new_cell _ _ _ 3) ?_); rfl) | exact bk3.cell 3), (by first | ((with_reducible refine Eq.trans (new_cell _ _ _ 4) ?_); rfl) | exact bk3.cell 4), (by first | ((with_reducible refine Eq.trans (new_cell _ _ _ 5) ?_); rfl) | exact bk3.cell 5), ?_, l24, ?_, ?_⟩
      · first | (with_reducible refine WrS.wider (q23.alloc _) ?_ ?_) | refine WrS.wider (WrS.set6 q23 ?_) ?_ (by simp)
        all_goals exact (by first | omega | exact Nat.le_refl _ | (simp; done) | (simp; omega))
      · exact (by first | omega | exact Nat.le_refl _ | (simp; done) | (simp; omega))
      · first | (with_reducible refine Below.alloc e0p ?_ _) | refine below_set6 e0 ?_
        exact (by first | omega | exact Nat.le_refl _ | (simp; done) | (simp; omega))
    refine Mix.wpMix_chg (by rfl) (fun K hK => ?_)
    go_wp2_with fail
    refine (toMachine_c _ _ _ _ _ _ _ (by exact ((P0.out.rd).below e0)) (by omega)).mono ?_
    rintro e u1 ⟨g035, rfl, q36, hb⟩
    try simp only [World.size_alloc] at q36
    have e0 := below_chain e0 e0.size hb
    have e_q36 : Below u1.heap.size u1 u1 := below_size
    have zu1 : w2.heap.size ≤ u1.heap.size := by first | exact hb.size | exact Nat.le_trans (Nat.le_of_eq (World.size_alloc ..).symm) hb.size
    clear hb
    go_wp2_with fail
    refine hK _ _ ⟨⟨_, e0⟩, rfl⟩ ?_
    clear hK K
    refine Mix.wpMix_nil ?_
    refine Mix.wpF_3 ?_
    (refine Mix.wpMix_read (by rfl) ?_; go_big_quiet_step (fail); refine wpQuiet_nil ?_)
    refine Mix.wpMix_nil ?_
    refine Mix.wpF_1 ?_ ?_
    · simp only [List.cons_append, List.nil_append]
      have e0p := e0
      refine Mix.wpMix_chg (by rfl) (fun K hK => ?_)
      go_wp2_with fail
      refine hK _ _ ⟨⟨_, e0.alloc e0.size _⟩, rfl⟩ ?_
      clear hK K
      have e_q36 := e_q36.alloc e_q36.size (.cells #[.int .i64 0, .int .i64 0, .int .i64 0, .slice none 0 0, .slice none 0 0, .slice none 0 0] 29)
      have bk : Blk (u1.alloc (.cells #[.int .i64 0, .int .i64 0, .int .i64 0, .slice none 0 0, .slice none 0 0, .slice none 0 0] 29)) u1.heap.size 29 #[.int .i64 0, .int .i64 0, .int .i64 0, .slice none 0 0, .slice none 0 0, .slice none 0 0] := Blk.new _ _ _
      have e0 := e0.alloc e0.size (.cells #[.int .i64 0, .int .i64 0, .int .i64 0, .slice none 0 0, .slice none 0 0, .slice none 0 0] 29)
      refine Mix.wpMix_chg (by rfl) (fun K hK => ?_)
      go_wp2_with fail
      refine (toFormula_c _ _ _ _ _ _ _ _ _ _ _ _ _ _ _ _ (by exact ((P1.out.rd).below e0)) (by omega) (by omega) (by omega) hI0_a1 hI1_a1).mono ?_
      rintro e ua33 ⟨g037, js038, g139, js140, g241, rfl, hx43, hx44, q42, hb⟩
      try simp only [World.size_alloc] at q42
      have hI_hx43 : ∀ t ∈ js038, t.n ≤ 1000000000 := hi_of ((((P1.out.rd).below e0)).left.left) (((q42).rd).left.left) hx43 hI0_a1
      have hx43h := Lib.hid hx43; clear hx43
      have hI_hx44 : ∀ t ∈ js140, t.n ≤ 1000000000 := hi_of ((((P1.out.rd).below e0)).left.right) (((q42).rd).left.right) hx44 hI1_a1
      have hx44h := Lib.hid hx44; clear hx44
      have e_q36 := below_chain e_q36 e_q36.size hb
      have e0 := below_chain e0 e0.size hb
      have bk := bk.keep hb
      have e_q42 : Below ua33.heap.size ua33 ua33 := below_size
      have zua33 : u1.heap.size + 1 ≤ ua33.heap.size := by first | exact hb.size | exact Nat.le_trans (Nat.le_of_eq (World.size_alloc ..).symm) hb.size
      clear hb
      go_wp2_with fail
      refine hK _ _ ⟨⟨_, e0⟩, rfl⟩ ?_
      clear hK K
      refine Mix.wpMix_chg (by rfl) (fun K hK => ?_)
      go_wp2_with fail
      refine (sNormalFormula_c _ _ _ _ _ _ _ _ _ _ _ _ _ _ _ _ _ _ _ _ _ _ (by exact (q36.below e_q36).rd) (by exact (q42.below e_q42).rd) (by omega) (by omega) (by omega) (by omega) hI_hx43 hI_hx44 hx43h.out hx44h.out HRR.out).mono ?_
      rintro e ua34 ⟨A11, n12, c13, its14, B15, m16, d17, jts18, C19, k20, e21, rfl, q23, l24, hb⟩
      have e_q36 := below_chain e_q36 e_q36.size hb
      have e_q42 := below_chain e_q42 e_q42.size hb
      have e0 := below_chain e0 e0.size hb
      have bk := bk.keep hb
      have e_q23 : Below ua34.heap.size ua34 ua34 := below_size
      have zua34 : ua33.heap.size ≤ ua34.heap.size := by first | exact hb.size | exact Nat.le_trans (Nat.le_of_eq (World.size_alloc ..).symm) hb.size
      have q23 : WrS ua34 (ua33.heap.size) ua34.heap.size (sgII A11 n12 its14 ++ sgII B15 m16 jts18 ++ [sgI C19 k20 (RR.1).2.2.2.2.2]) := by first | exact q23.wider (Nat.le_refl _) (Nat.le_refl _) | exact q23.wider (Nat.le_of_eq (World.size_alloc ..).symm) (Nat.le_refl _)
      clear hb
      go_wp2_with fail
      refine hK _ _ ⟨⟨_, e0⟩, rfl⟩ ?_
      clear hK K
      (refine Mix.wpMix_pure (by rfl) ?_; go_big_quiet_step (fail); refine wpQuiet_nil ?_)
      (refine Mix.wpMix_pure (by rfl) ?_; go_big_quiet_step (fail); refine wpQuiet_nil ?_)
      (refine Mix.wpMix_pure (by rfl) ?_; go_big_quiet_step (fail); refine wpQuiet_nil ?_)
      repeat (first | (refine Mix.wpMix_read (by rfl) ?_; go_big_quiet_step (fail); refine wpQuiet_nil ?_) | (refine Mix.wpMix_pure (by rfl) ?_; go_big_quiet_step (fail); refine wpQuiet_nil ?_))
      have d0 := bk.cell 0; have f0 := bk.frozen 0
      simp at d0
      have d1 := bk.cell 1; have f1 := bk.frozen 1
      simp at d1
      have d2 := bk.cell 2; have f2 := bk.frozen 2
      simp at d2
      have d3 := bk.cell 3; have f3 := bk.frozen 3
      simp at d3
      have d4 := bk.cell 4; have f4 := bk.frozen 4
      simp at d4
      have d5 := bk.cell 5; have f5 := bk.frozen 5
      simp at d5
      refine Mix.wpMix_tail (by rfl) (fun K hK => ?_)
      go_wp2_with fail
      refine hK _ _ ?_
      clear hK K
      repeat (first | (refine Mix.wpMix_read (by rfl) ?_; go_big_quiet_step (fail); refine wpQuiet_nil ?_) | (refine Mix.wpMix_pure (by rfl) ?_; go_big_quiet_step (fail); refine wpQuiet_nil ?_))
      (refine Mix.wpMix_nil ?_; try simp only [Exit.then])
      go_wp2_with fail
      go_meet
      have bk2 := ((((((bk.set_ 0 (.int .i64 RR.1.1)).set_ 1 (.int .i64 RR.1.2.1)).set_ 2 (.int .i64 RR.1.2.2.1)).set_ 3 (.slice A11 n12 c13)).set_ 4 (.slice B15 m16 d17)).set_ 5 (.slice C19 k20 e21))
      have bk3 := bk2
      simp only [List.setIfInBounds_toArray, List.set_cons_succ, List.set_cons_zero] at bk3
      refine ⟨u1.heap.size, A11, n12, c13, its14, B15, m16, d17, jts18, C19, k20, e21, rfl, rfl, (by first | ((with_reducible refine Eq.trans (new_cell _ _ _ 0) ?_); rfl) | exact bk3.cell 0), (by first | ((with_reducible refine Eq.trans (new_cell _ _ _ 1) ?_); rfl) | exact bk3.cell 1), (by first | ((with_reducible refine Eq.trans (new_cell _ _ _ 2) ?_); rfl) | exact bk3.cell 2), (by first | ((with_reducible refine Eq.trans (new_cell _ _ _ 3) ?_); rfl) | exact bk3.cell 3), (by first | ((with_reducible refine Eq.trans (new_cell _ _ _ 4) ?_); rfl) | exact bk3.cell 4), (by first | ((with_reducible refine Eq.trans (new_cell _ _ _ 5) ?_); rfl) | exact bk3.cell 5), ?_, l24, ?_, ?_⟩
      · first | (with_reducible refine WrS.wider (q23.alloc _) ?_ ?_) | refine WrS.wider (WrS.set6 q23 ?_) ?_ (by simp)
        all_goals exact (by first | omega | exact Nat.le_refl _ | (simp; done) | (simp; omega))
      · exact (by first | omega | exact Nat.le_refl _ | (simp; done) | (simp; omega))
      · first | (with_reducible refine Below.alloc e0p ?_ _) | refine below_set6 e0 ?_
        exact (by first | omega | exact Nat.le_refl _ | (simp; done) | (simp; omega))
    refine Mix.wpMix_chg (by rfl) (fun K hK => ?_)
    go_wp2_with fail
    refine (toFormula_c _ _ _ _ _ _ _ _ _ _ _ _ _ _ _ _ (by exact ((P1.out.rd).below e0)) (by omega) (by omega) (by omega) hI0_a1 hI1_a1).mono ?_
    rintro e u3 ⟨g045, js046, g147, js148, g249, rfl, hx51, hx52, q50, hb⟩
    try simp only [World.size_alloc] at q50
    have hI_hx51 : ∀ t ∈ js046, t.n ≤ 1000000000 := hi_of ((((P1.out.rd).below e0)).left.left) (((q50).rd).left.left) hx51 hI0_a1
    have hx51h := Lib.hid hx51; clear hx51
    have hI_hx52 : ∀ t ∈ js148, t.n ≤ 1000000000 := hi_of ((((P1.out.rd).below e0)).left.right) (((q50).rd).left.right) hx52 hI1_a1
    have hx52h := Lib.hid hx52; clear hx52
    have e_q36 := below_chain e_q36 e_q36.size hb
    have e0 := below_chain e0 e0.size hb
    have e_q50 : Below u3.heap.size u3 u3 := below_size
    have zu3 : u1.heap.size ≤ u3.heap.size := by first | exact hb.size | exact Nat.le_trans (Nat.le_of_eq (World.size_alloc ..).symm) hb.size
    clear hb
    go_wp2_with fail
    refine hK _ _ ⟨⟨_, e0⟩, rfl⟩ ?_
    clear hK K
    refine Mix.wpMix_nil ?_
    refine Mix.wpF_1 ?_ ?_
    · simp only [List.cons_append, List.nil_append]
      have e0p := e0
      refine Mix.wpMix_chg (by rfl) (fun K hK => ?_)
      go_wp2_with fail
      refine hK _ _ ⟨⟨_, e0.alloc e0.size _⟩, rfl⟩ ?_
      clear hK K
      have e_q36 := e_q36.alloc e_q36.size (.cells #[.int .i64 0, .int .i64 0, .int .i64 0, .slice none 0 0, .slice none 0 0, .slice none 0 0] 29)
      have e_q50 := e_q50.alloc e_q50.size (.cells #[.int .i64 0, .int .i64 0, .int .i64 0, .slice none 0 0, .slice none 0 0, .slice none 0 0] 29)
      have bk : Blk (u3.alloc (.cells #[.int .i64 0, .int .i64 0, .int .i64 0, .slice none 0 0, .slice none 0 0, .slice none 0 0] 29)) u3.heap.size 29 #[.int .i64 0, .int .i64 0, .int .i64 0, .slice none 0 0, .slice none 0 0, .slice none 0 0] := Blk.new _ _ _
      have e0 := e0.alloc e0.size (.cells #[.int .i64 0, .int .i64 0, .int .i64 0, .slice none 0 0, .slice none 0 0, .slice none 0 0] 29)
      refine Mix.wpMix_chg (by rfl) (fun K hK => ?_)
      go_wp2_with fail
      refine (sNormalFormula_c _ _ _ _ _ _ _ _ _ _ _ _ _ _ _ _ _ _ _ _ _ _ (by exact (q36.below e_q36).rd) (by exact (q50.below e_q50).rd) (by omega) (by omega) (by omega) (by omega) hI_hx51 hI_hx52 hx51h.out hx52h.out HRR.out).mono ?_
      rintro e ua44 ⟨A11, n12, c13, its14, B15, m16, d17, jts18, C19, k20, e21, rfl, q23, l24, hb⟩
      have e_q36 := below_chain e_q36 e_q36.size hb
      have e_q50 := below_chain e_q50 e_q50.size hb
      have e0 := below_chain e0 e0.size hb
      have bk := bk.keep hb
      have e_q23 : Below ua44.heap.size ua44 ua44 := below_size
      have zua44 : u3.heap.size + 1 ≤ ua44.heap.size := by first | exact hb.size | exact Nat.le_trans (Nat.le_of_eq (World.size_alloc ..).symm) hb.size
      have q23 : WrS ua44 (u3.heap.size + 1) ua44.heap.size (sgII A11 n12 its14 ++ sgII B15 m16 jts18 ++ [sgI C19 k20 (RR.1).2.2.2.2.2]) := by first | exact q23.wider (Nat.le_refl _) (Nat.le_refl _) | exact q23.wider (Nat.le_of_eq (World.size_alloc ..).symm) (Nat.le_refl _)
      clear hb
      go_wp2_with fail
      refine hK _ _ ⟨⟨_, e0⟩, rfl⟩ ?_
      clear hK K
      (refine Mix.wpMix_pure (by rfl) ?_; go_big_quiet_step (fail); refine wpQuiet_nil ?_)
      (refine Mix.wpMix_pure (by rfl) ?_; go_big_quiet_step (fail); refine wpQuiet_nil ?_)
      (refine Mix.wpMix_pure (by rfl) ?_; go_big_quiet_step (fail); refine wpQuiet_nil ?_)
      repeat (first | (refine Mix.wpMix_read (by rfl) ?_; go_big_quiet_step (fail); refine wpQuiet_nil ?_) | (refine Mix.wpMix_pure (by rfl) ?_; go_big_quiet_step (fail); refine wpQuiet_nil ?_))
      have d0 := bk.cell 0; have f0 := bk.frozen 0
      simp at d0
      have d1 := bk.cell 1; have f1 := bk.frozen 1
      simp at d1
      have d2 := bk.cell 2; have f2 := bk.frozen 2
      simp at d2
      have d3 := bk.cell 3; have f3 := bk.frozen 3
      simp at d3
      have d4 := bk.cell 4; have f4 := bk.frozen 4
      simp at d4
      have d5 := bk.cell 5; have f5 := bk.frozen 5
      simp at d5
      refine Mix.wpMix_tail (by rfl) (fun K hK => ?_)
      go_wp2_with fail
      refine hK _ _ ?_
      clear hK K
      repeat (first | (refine Mix.wpMix_read (by rfl) ?_; go_big_quiet_step (fail); refine wpQuiet_nil ?_) | (refine Mix.wpMix_pure (by rfl) ?_; go_big_quiet_step (fail); refine wpQuiet_nil ?_))
      (refine Mix.wpMix_nil ?_; try simp only [Exit.then])
      go_wp2_with fail
      go_meet
      have bk2 := ((((((bk.set_ 0 (.int .i64 RR.1.1)).set_ 1 (.int .i64 RR.1.2.1)).set_ 2 (.int .i64 RR.1.2.2.1)).set_ 3 (.slice A11 n12 c13)).set_ 4 (.slice B15 m16 d17)).set_ 5 (.slice C19 k20 e21))
      have bk3 := bk2
      simp only [List.setIfInBounds_toArray, List.set_cons_succ, List.set_cons_zero] at bk3
      refine ⟨u3.heap.size, A11, n12, c13, its14, B15, m16, d17, jts18, C19, k20, e21, rfl, rfl, (by first | ((with_reducible refine Eq.trans (new_cell _ _ _ 0) ?_); rfl) | exact bk3.cell 0), (by first | ((with_reducible refine Eq.trans (new_cell _ _ _ 1) ?_); rfl) | exact bk3.cell 1), (by first | ((with_reducible refine Eq.trans (new_cell _ _ _ 2) ?_); rfl) | exact bk3.cell 2), (by first | ((with_reducible refine Eq.trans (new_cell _ _ _ 3) ?_); rfl) | exact bk3.cell 3), (by first | ((with_reducible refine Eq.trans (new_cell _ _ _ 4) ?_); rfl) | exact bk3.cell 4), (by first | ((with_reducible refine Eq.trans (new_cell _ _ _ 5) ?_); rfl) | exact bk3.cell 5), ?_, l24, ?_, ?_⟩
      · first | (with_reducible refine WrS.wider (q23.alloc _) ?_ ?_) | refine WrS.wider (WrS.set6 q23 ?_) ?_ (by simp)
        all_goals exact (by first | omega | exact Nat.le_refl _ | (simp; done) | (simp; omega))
      · exact (by first | omega | exact Nat.le_refl _ | (simp; done) | (simp; omega))
      · first | (with_reducible refine Below.alloc e0p ?_ _) | refine below_set6 e0 ?_
        exact (by first | omega | exact Nat.le_refl _ | (simp; done) | (simp; omega))
    refine Mix.wpMix_chg (by rfl) (fun K hK => ?_)
    go_wp2_with fail
    refine (sNormalFormula_c _ _ _ _ _ _ _ _ _ _ _ _ _ _ _ _ _ _ _ _ _ _ (by exact (q36.below e_q36).rd) (by exact (q50.below e_q50).rd) (by omega) (by omega) (by omega) (by omega) hI_hx51 hI_hx52 hx51h.out hx52h.out HRR.out).mono ?_
    rintro e u4 ⟨A11, n12, c13, its14, B15, m16, d17, jts18, C19, k20, e21, rfl, q23, l24, hb⟩
    have e_q36 := below_chain e_q36 e_q36.size hb
    have e_q50 := below_chain e_q50 e_q50.size hb
    have e0 := below_chain e0 e0.size hb
    have e_q23 : Below u4.heap.size u4 u4 := below_size
    have zu4 : u3.heap.size ≤ u4.heap.size := by first | exact hb.size | exact Nat.le_trans (Nat.le_of_eq (World.size_alloc ..).symm) hb.size
    have q23 : WrS u4 (u3.heap.size) u4.heap.size (sgII A11 n12 its14 ++ sgII B15 m16 jts18 ++ [sgI C19 k20 (RR.1).2.2.2.2.2]) := by first | exact q23.wider (Nat.le_refl _) (Nat.le_refl _) | exact q23.wider (Nat.le_of_eq (World.size_alloc ..).symm) (Nat.le_refl _)
    clear hb
    go_wp2_with fail
    refine hK _ _ ⟨⟨_, e0⟩, rfl⟩ ?_
    clear hK K
    refine Mix.wpMix_nil ?_
    refine Mix.wpF_0 ?_
    (refine Mix.wpMix_pure (by rfl) ?_; go_big_quiet_step (fail); refine wpQuiet_nil ?_)
    refine Mix.wpMix_nil ?_
    refine Mix.wpF_0 ?_
    (refine Mix.wpMix_pure (by rfl) ?_; go_big_quiet_step (fail); refine wpQuiet_nil ?_)
    refine Mix.wpMix_nil ?_
    refine Mix.wpF_0 ?_
    (refine Mix.wpMix_pure (by rfl) ?_; go_big_quiet_step (fail); refine wpQuiet_nil ?_)
    refine Mix.wpMix_nil ?_
    refine Mix.wpF_nil ?_
    have e0p := e0
    refine Mix.wpMix_chg (by rfl) (fun K hK => ?_)
    go_wp2_with fail
    refine hK _ _ ⟨⟨_, e0.alloc e0.size _⟩, rfl⟩ ?_
    clear hK K
    have e_q36 := e_q36.alloc e_q36.size (.cells #[.int .i64 0, .int .i64 0, .int .i64 0, .slice none 0 0, .slice none 0 0, .slice none 0 0] 29)
    have e_q50 := e_q50.alloc e_q50.size (.cells #[.int .i64 0, .int .i64 0, .int .i64 0, .slice none 0 0, .slice none 0 0, .slice none 0 0] 29)
    have e_q23 := e_q23.alloc e_q23.size (.cells #[.int .i64 0, .int .i64 0, .int .i64 0, .slice none 0 0, .slice none 0 0, .slice none 0 0] 29)
    have bk : Blk (u4.alloc (.cells #[.int .i64 0, .int .i64 0, .int .i64 0, .slice none 0 0, .slice none 0 0, .slice none 0 0] 29)) u4.heap.size 29 #[.int .i64 0, .int .i64 0, .int .i64 0, .slice none 0 0, .slice none 0 0, .slice none 0 0] := Blk.new _ _ _
    have e0 := e0.alloc e0.size (.cells #[.int .i64 0, .int .i64 0, .int .i64 0, .slice none 0 0, .slice none 0 0, .slice none 0 0] 29)
    repeat (first | (refine Mix.wpMix_read (by rfl) ?_; go_big_quiet_step (fail); refine wpQuiet_nil ?_) | (refine Mix.wpMix_pure (by rfl) ?_; go_big_quiet_step (fail); refine wpQuiet_nil ?_))
    have d0 := bk.cell 0; have f0 := bk.frozen 0
    simp at d0
    have d1 := bk.cell 1; have f1 := bk.frozen 1
    simp at d1
    have d2 := bk.cell 2; have f2 := bk.frozen 2
    simp at d2
    have d3 := bk.cell 3; have f3 := bk.frozen 3
    simp at d3
    have d4 := bk.cell 4; have f4 := bk.frozen 4
    simp at d4
    have d5 := bk.cell 5; have f5 := bk.frozen 5
    simp at d5
    refine Mix.wpMix_tail (by rfl) (fun K hK => ?_)
    go_wp2_with fail
    refine hK _ _ ?_
    clear hK K
    repeat (first | (refine Mix.wpMix_read (by rfl) ?_; go_big_quiet_step (fail); refine wpQuiet_nil ?_) | (refine Mix.wpMix_pure (by rfl) ?_; go_big_quiet_step (fail); refine wpQuiet_nil ?_))
    (refine Mix.wpMix_nil ?_; try simp only [Exit.then])
    go_wp2_with fail
    go_meet
    have bk2 := ((((((bk.set_ 0 (.int .i64 RR.1.1)).set_ 1 (.int .i64 RR.1.2.1)).set_ 2 (.int .i64 RR.1.2.2.1)).set_ 3 (.slice A11 n12 c13)).set_ 4 (.slice B15 m16 d17)).set_ 5 (.slice C19 k20 e21))
    have bk3 := bk2
    simp only [List.setIfInBounds_toArray, List.set_cons_succ, List.set_cons_zero] at bk3
    refine ⟨u4.heap.size, A11, n12, c13, its14, B15, m16, d17, jts18, C19, k20, e21, rfl, rfl, (by first | ((with_reducible refine Eq.trans (new_cell _ _ _ 0) ?_); rfl) | exact bk3.cell 0), (by first | ((with_reducible refine Eq.trans (new_cell _ _ _ 1) ?_); rfl) | exact bk3.cell 1), (by first | ((with_reducible refine Eq.trans (new_cell _ _ _ 2) ?_); rfl) | exact bk3.cell 2), (by first | ((with_reducible refine Eq.trans (new_cell _ _ _ 3) ?_); rfl) | exact bk3.cell 3), (by first | ((with_reducible refine Eq.trans (new_cell _ _ _ 4) ?_); rfl) | exact bk3.cell 4), (by first | ((with_reducible refine Eq.trans (new_cell _ _ _ 5) ?_); rfl) | exact bk3.cell 5), ?_, l24, ?_, ?_⟩
    · first | (with_reducible refine WrS.wider (q23.alloc _) ?_ ?_) | refine WrS.wider (WrS.set6 q23 ?_) ?_ (by simp)
      all_goals exact (by first | omega | exact Nat.le_refl _ | (simp; done) | (simp; omega))
    · exact (by first | omega | exact Nat.le_refl _ | (simp; done) | (simp; omega))
    · first | (with_reducible refine Below.alloc e0p ?_ _) | refine below_set6 e0 ?_
      exact (by first | omega | exact Nat.le_refl _ | (simp; done) | (simp; omega))
  case rest =>
    obtain ⟨g22, A11, n12, c13, its14, B15, m16, d17, jts18, C19, k20, e21, rfl, rfl, nc0, nc1, nc2, nc3, nc4, nc5, q23, l24, hgg22, hb'⟩ := hcut
    obtain ⟨w3, rfl⟩ : ∃ w3 : World, w3 = wc := ⟨_, rfl⟩
    have z3 := hb'.size
    have hlg22 : g22 < w3.heap.size := World.block_lt_of_cell? w3 _ nc0
    have c3_a0_0 : w3.cell? ⟨w.heap.size, 0, none⟩ = some (.int .i64 sy0) := keepc hb' c2_a0_0
    clear c2_a0_0 ac2_a0_0
    have c3_a0_1 : w3.cell? ⟨w.heap.size, 1, none⟩ = some (.int .i64 st0) := keepc hb' c2_a0_1
    clear c2_a0_1 ac2_a0_1
    have c3_a0_2 : w3.cell? ⟨w.heap.size, 2, none⟩ = some (.slice A0 n0 c0) := keepc hb' c2_a0_2
    clear c2_a0_2 ac2_a0_2
    have c3_a1_0 : w3.cell? ⟨(w.heap.size + 1), 0, none⟩ = some (.int .i64 st1) := keepc hb' c2_a1_0
    clear c2_a1_0 ac2_a1_0
    have c3_a1_1 : w3.cell? ⟨(w.heap.size + 1), 1, none⟩ = some (.int .i64 hd1) := keepc hb' c2_a1_1
    clear c2_a1_1 ac2_a1_1
    have c3_a1_2 : w3.cell? ⟨(w.heap.size + 1), 2, none⟩ = some (.int .i64 at1) := keepc hb' c2_a1_2
    clear c2_a1_2 ac2_a1_2
    have c3_a1_3 : w3.cell? ⟨(w.heap.size + 1), 3, none⟩ = some (.slice A1 n1 c1) := keepc hb' c2_a1_3
    clear c2_a1_3 ac2_a1_3
    have c3_a1_4 : w3.cell? ⟨(w.heap.size + 1), 4, none⟩ = some (.slice B1 m1 d1) := keepc hb' c2_a1_4
    clear c2_a1_4 ac2_a1_4
    have c3_a1_5 : w3.cell? ⟨(w.heap.size + 1), 5, none⟩ = some (.slice C1 k1 e1) := keepc hb' c2_a1_5
    clear c2_a1_5 ac2_a1_5
    have c3_o53_0 := nc0; clear nc0
    have c3_o53_1 := nc1; clear nc1
    have c3_o53_2 := nc2; clear nc2
    have c3_o53_3 := nc3; clear nc3
    have c3_o53_4 := nc4; clear nc4
    have c3_o53_5 := nc5; clear nc5
    have ac3_a0_0 := fun o => keepa o c3_a0_0
    have ac3_a0_1 := fun o => keepa o c3_a0_1
    have ac3_a0_2 := fun o => keepa o c3_a0_2
    have ac3_a1_0 := fun o => keepa o c3_a1_0
    have ac3_a1_1 := fun o => keepa o c3_a1_1
    have ac3_a1_2 := fun o => keepa o c3_a1_2
    have ac3_a1_3 := fun o => keepa o c3_a1_3
    have ac3_a1_4 := fun o => keepa o c3_a1_4
    have ac3_a1_5 := fun o => keepa o c3_a1_5
    have ac3_o53_0 := fun o => keepa o c3_o53_0
    have ac3_o53_1 := fun o => keepa o c3_o53_1
    have ac3_o53_2 := fun o => keepa o c3_o53_2
    have ac3_o53_3 := fun o => keepa o c3_o53_3
    have ac3_o53_4 := fun o => keepa o c3_o53_4
    have ac3_o53_5 := fun o => keepa o c3_o53_5
    have rP0 := P0.out.below hb'; clear P0; have P0 := Lib.hid rP0; clear rP0
    have rP1 := P1.out.below hb'; clear P1; have P1 := Lib.hid rP1; clear rP1
    have rB := below_chain B.out (by omega) hb'; clear B; have B := Lib.hid rB; clear rB hb'
    have Fo53 := Lib.hid q23; clear q23
    obtain ⟨ln_o53, ln_o53_1, ln_o53_2, bI0_o53, hs0_o53, bm0_o53, bI1_o53, hs1_o53, bm1_o53⟩ := l24
    have hI0_o53 := (fun t ht => Nat.le_trans (bI0_o53 t ht) (by omega) : ∀ t ∈ its14, t.n ≤ 1000000000); have hm0_o53 := Lib.hid bm0_o53; clear bI0_o53 bm0_o53
    have hI1_o53 := (fun t ht => Nat.le_trans (bI1_o53 t ht) (by omega) : ∀ t ∈ jts18, t.n ≤ 1000000000); have hm1_o53 := Lib.hid bm1_o53; clear bI1_o53 bm1_o53
    go_wp2_with fail
    refine (toMachine_c _ _ _ _ _ _ _ (by exact (P0.out.rd)) (by omega)).mono ?_
    rintro e w4 ⟨g054, rfl, q4, hb⟩
    have hb' : Below w3.heap.size w3 w4 := (by first | (with_reducible exact hb) | (with_reducible exact up1 hb) | (with_reducible exact up2 hb) | (with_reducible exact up3 hb) | (with_reducible exact up4 hb) | (with_reducible exact below_of_drew hb) | (with_reducible exact below_of_drew (up1 hb)))
    have z4 := hb'.size
    have c4_a0_0 : w4.cell? ⟨w.heap.size, 0, none⟩ = some (.int .i64 sy0) := keepc hb' c3_a0_0
    clear c3_a0_0 ac3_a0_0
    have c4_a0_1 : w4.cell? ⟨w.heap.size, 1, none⟩ = some (.int .i64 st0) := keepc hb' c3_a0_1
    clear c3_a0_1 ac3_a0_1
    have c4_a0_2 : w4.cell? ⟨w.heap.size, 2, none⟩ = some (.slice A0 n0 c0) := keepc hb' c3_a0_2
    clear c3_a0_2 ac3_a0_2
    have c4_a1_0 : w4.cell? ⟨(w.heap.size + 1), 0, none⟩ = some (.int .i64 st1) := keepc hb' c3_a1_0
    clear c3_a1_0 ac3_a1_0
    have c4_a1_1 : w4.cell? ⟨(w.heap.size + 1), 1, none⟩ = some (.int .i64 hd1) := keepc hb' c3_a1_1
    clear c3_a1_1 ac3_a1_1
    have c4_a1_2 : w4.cell? ⟨(w.heap.size + 1), 2, none⟩ = some (.int .i64 at1) := keepc hb' c3_a1_2
    clear c3_a1_2 ac3_a1_2
    have c4_a1_3 : w4.cell? ⟨(w.heap.size + 1), 3, none⟩ = some (.slice A1 n1 c1) := keepc hb' c3_a1_3
    clear c3_a1_3 ac3_a1_3
    have c4_a1_4 : w4.cell? ⟨(w.heap.size + 1), 4, none⟩ = some (.slice B1 m1 d1) := keepc hb' c3_a1_4
    clear c3_a1_4 ac3_a1_4
    have c4_a1_5 : w4.cell? ⟨(w.heap.size + 1), 5, none⟩ = some (.slice C1 k1 e1) := keepc hb' c3_a1_5
    clear c3_a1_5 ac3_a1_5
    have c4_o53_0 : w4.cell? ⟨g22, 0, none⟩ = some (.int .i64 RR.1.1) := keepc hb' c3_o53_0
    clear c3_o53_0 ac3_o53_0
    have c4_o53_1 : w4.cell? ⟨g22, 1, none⟩ = some (.int .i64 RR.1.2.1) := keepc hb' c3_o53_1
    clear c3_o53_1 ac3_o53_1
    have c4_o53_2 : w4.cell? ⟨g22, 2, none⟩ = some (.int .i64 RR.1.2.2.1) := keepc hb' c3_o53_2
    clear c3_o53_2 ac3_o53_2
    have c4_o53_3 : w4.cell? ⟨g22, 3, none⟩ = some (.slice A11 n12 c13) := keepc hb' c3_o53_3
    clear c3_o53_3 ac3_o53_3
    have c4_o53_4 : w4.cell? ⟨g22, 4, none⟩ = some (.slice B15 m16 d17) := keepc hb' c3_o53_4
    clear c3_o53_4 ac3_o53_4
    have c4_o53_5 : w4.cell? ⟨g22, 5, none⟩ = some (.slice C19 k20 e21) := keepc hb' c3_o53_5
    clear c3_o53_5 ac3_o53_5
    have ac4_a0_0 := fun o => keepa o c4_a0_0
    have ac4_a0_1 := fun o => keepa o c4_a0_1
    have ac4_a0_2 := fun o => keepa o c4_a0_2
    have ac4_a1_0 := fun o => keepa o c4_a1_0
    have ac4_a1_1 := fun o => keepa o c4_a1_1
    have ac4_a1_2 := fun o => keepa o c4_a1_2
    have ac4_a1_3 := fun o => keepa o c4_a1_3
    have ac4_a1_4 := fun o => keepa o c4_a1_4
    have ac4_a1_5 := fun o => keepa o c4_a1_5
    have ac4_o53_0 := fun o => keepa o c4_o53_0
    have ac4_o53_1 := fun o => keepa o c4_o53_1
    have ac4_o53_2 := fun o => keepa o c4_o53_2
    have ac4_o53_3 := fun o => keepa o c4_o53_3
    have ac4_o53_4 := fun o => keepa o c4_o53_4
    have ac4_o53_5 := fun o => keepa o c4_o53_5
    have rP0 := P0.out.below hb'; clear P0; have P0 := Lib.hid rP0; clear rP0
    have rP1 := P1.out.below hb'; clear P1; have P1 := Lib.hid rP1; clear rP1
    have rFo53 := Fo53.out.below hb'; clear Fo53; have Fo53 := Lib.hid rFo53; clear rFo53
    have rB := below_chain B.out (by omega) hb'; clear B; have B := Lib.hid rB; clear rB
    have Fo55 := Lib.hid q4; clear q4
    clear hb hb'
    go_wp2_with fail
    refine (toFormula_c _ _ _ _ _ _ _ _ _ _ _ _ _ _ _ _ (by exact ((P1.out.rd).alloc _)) (by omega) (by omega) (by omega) hI0_a1 hI1_a1).mono ?_
    rintro e w5 ⟨g056, js057, g158, js159, g260, rfl, hx0_5, hx1_5, q5, hb⟩
    try simp only [World.size_alloc] at q5
    have hb' : Below w4.heap.size w4 w5 := (by first | (with_reducible exact hb) | (with_reducible exact up1 hb) | (with_reducible exact up2 hb) | (with_reducible exact up3 hb) | (with_reducible exact up4 hb) | (with_reducible exact below_of_drew hb) | (with_reducible exact below_of_drew (up1 hb)))
    have z5 := hb'.size
    have c5_a0_0 : w5.cell? ⟨w.heap.size, 0, none⟩ = some (.int .i64 sy0) := keepc hb' c4_a0_0
    clear c4_a0_0 ac4_a0_0
    have c5_a0_1 : w5.cell? ⟨w.heap.size, 1, none⟩ = some (.int .i64 st0) := keepc hb' c4_a0_1
    clear c4_a0_1 ac4_a0_1
    have c5_a0_2 : w5.cell? ⟨w.heap.size, 2, none⟩ = some (.slice A0 n0 c0) := keepc hb' c4_a0_2
    clear c4_a0_2 ac4_a0_2
    have c5_a1_0 : w5.cell? ⟨(w.heap.size + 1), 0, none⟩ = some (.int .i64 st1) := keepc hb' c4_a1_0
    clear c4_a1_0 ac4_a1_0
    have c5_a1_1 : w5.cell? ⟨(w.heap.size + 1), 1, none⟩ = some (.int .i64 hd1) := keepc hb' c4_a1_1
    clear c4_a1_1 ac4_a1_1
    have c5_a1_2 : w5.cell? ⟨(w.heap.size + 1), 2, none⟩ = some (.int .i64 at1) := keepc hb' c4_a1_2
    clear c4_a1_2 ac4_a1_2
    have c5_a1_3 : w5.cell? ⟨(w.heap.size + 1), 3, none⟩ = some (.slice A1 n1 c1) := keepc hb' c4_a1_3
    clear c4_a1_3 ac4_a1_3
    have c5_a1_4 : w5.cell? ⟨(w.heap.size + 1), 4, none⟩ = some (.slice B1 m1 d1) := keepc hb' c4_a1_4
    clear c4_a1_4 ac4_a1_4
    have c5_a1_5 : w5.cell? ⟨(w.heap.size + 1), 5, none⟩ = some (.slice C1 k1 e1) := keepc hb' c4_a1_5
    clear c4_a1_5 ac4_a1_5
    have c5_o53_0 : w5.cell? ⟨g22, 0, none⟩ = some (.int .i64 RR.1.1) := keepc hb' c4_o53_0
    clear c4_o53_0 ac4_o53_0
    have c5_o53_1 : w5.cell? ⟨g22, 1, none⟩ = some (.int .i64 RR.1.2.1) := keepc hb' c4_o53_1
    clear c4_o53_1 ac4_o53_1
    have c5_o53_2 : w5.cell? ⟨g22, 2, none⟩ = some (.int .i64 RR.1.2.2.1) := keepc hb' c4_o53_2
    clear c4_o53_2 ac4_o53_2
    have c5_o53_3 : w5.cell? ⟨g22, 3, none⟩ = some (.slice A11 n12 c13) := keepc hb' c4_o53_3
    clear c4_o53_3 ac4_o53_3
    have c5_o53_4 : w5.cell? ⟨g22, 4, none⟩ = some (.slice B15 m16 d17) := keepc hb' c4_o53_4
    clear c4_o53_4 ac4_o53_4
    have c5_o53_5 : w5.cell? ⟨g22, 5, none⟩ = some (.slice C19 k20 e21) := keepc hb' c4_o53_5
    clear c4_o53_5 ac4_o53_5
    have c5_o55_0 : w5.cell? ⟨w4.heap.size, 0, none⟩ = some (.int .i64 sy0) := keepc hb (by first | (simp; done) | (rw [World.cell?_alloc_past _ _ _ (by simp <;> omega)]; simp; done) | (rw [World.cell?_alloc_past _ _ _ (by simp <;> omega), World.cell?_alloc_past _ _ _ (by simp <;> omega)]; simp; done) | (rw [World.cell?_alloc_past _ _ _ (by simp <;> omega), World.cell?_alloc_past _ _ _ (by simp <;> omega), World.cell?_alloc_past _ _ _ (by simp <;> omega)]; simp; done) | (rw [World.cell?_alloc_at _ _ _ _ (by simp)]; simp; done) | (rw [World.cell?_alloc_past _ _ _ (by simp <;> omega), World.cell?_alloc_at _ _ _ _ (by simp)]; simp; done) | (rw [World.cell?_alloc_past _ _ _ (by simp <;> omega), World.cell?_alloc_past _ _ _ (by simp <;> omega), World.cell?_alloc_at _ _ _ _ (by simp)]; simp; done) | (rw [World.cell?_alloc_past _ _ _ (by simp <;> omega), World.cell?_alloc_past _ _ _ (by simp <;> omega), World.cell?_alloc_past _ _ _ (by simp <;> omega), World.cell?_alloc_at _ _ _ _ (by simp)]; simp; done))
    have hl_c5_o55_0 : w4.heap.size < w5.heap.size := World.block_lt_of_cell? w5 _ c5_o55_0
    have c5_o55_1 : w5.cell? ⟨w4.heap.size, 1, none⟩ = some (.int .i64 st0) := keepc hb (by first | (simp; done) | (rw [World.cell?_alloc_past _ _ _ (by simp <;> omega)]; simp; done) | (rw [World.cell?_alloc_past _ _ _ (by simp <;> omega), World.cell?_alloc_past _ _ _ (by simp <;> omega)]; simp; done) | (rw [World.cell?_alloc_past _ _ _ (by simp <;> omega), World.cell?_alloc_past _ _ _ (by simp <;> omega), World.cell?_alloc_past _ _ _ (by simp <;> omega)]; simp; done) | (rw [World.cell?_alloc_at _ _ _ _ (by simp)]; simp; done) | (rw [World.cell?_alloc_past _ _ _ (by simp <;> omega), World.cell?_alloc_at _ _ _ _ (by simp)]; simp; done) | (rw [World.cell?_alloc_past _ _ _ (by simp <;> omega), World.cell?_alloc_past _ _ _ (by simp <;> omega), World.cell?_alloc_at _ _ _ _ (by simp)]; simp; done) | (rw [World.cell?_alloc_past _ _ _ (by simp <;> omega), World.cell?_alloc_past _ _ _ (by simp <;> omega), World.cell?_alloc_past _ _ _ (by simp <;> omega), World.cell?_alloc_at _ _ _ _ (by simp)]; simp; done))
    have c5_o55_2 : w5.cell? ⟨w4.heap.size, 2, none⟩ = some (.slice (some ⟨g054, 0, none⟩) n0 n0) := keepc hb (by first | (simp; done) | (rw [World.cell?_alloc_past _ _ _ (by simp <;> omega)]; simp; done) | (rw [World.cell?_alloc_past _ _ _ (by simp <;> omega), World.cell?_alloc_past _ _ _ (by simp <;> omega)]; simp; done) | (rw [World.cell?_alloc_past _ _ _ (by simp <;> omega), World.cell?_alloc_past _ _ _ (by simp <;> omega), World.cell?_alloc_past _ _ _ (by simp <;> omega)]; simp; done) | (rw [World.cell?_alloc_at _ _ _ _ (by simp)]; simp; done) | (rw [World.cell?_alloc_past _ _ _ (by simp <;> omega), World.cell?_alloc_at _ _ _ _ (by simp)]; simp; done) | (rw [World.cell?_alloc_past _ _ _ (by simp <;> omega), World.cell?_alloc_past _ _ _ (by simp <;> omega), World.cell?_alloc_at _ _ _ _ (by simp)]; simp; done) | (rw [World.cell?_alloc_past _ _ _ (by simp <;> omega), World.cell?_alloc_past _ _ _ (by simp <;> omega), World.cell?_alloc_past _ _ _ (by simp <;> omega), World.cell?_alloc_at _ _ _ _ (by simp)]; simp; done))
    have ac5_a0_0 := fun o => keepa o c5_a0_0
    have ac5_a0_1 := fun o => keepa o c5_a0_1
    have ac5_a0_2 := fun o => keepa o c5_a0_2
    have ac5_a1_0 := fun o => keepa o c5_a1_0
    have ac5_a1_1 := fun o => keepa o c5_a1_1
    have ac5_a1_2 := fun o => keepa o c5_a1_2
    have ac5_a1_3 := fun o => keepa o c5_a1_3
    have ac5_a1_4 := fun o => keepa o c5_a1_4
    have ac5_a1_5 := fun o => keepa o c5_a1_5
    have ac5_o53_0 := fun o => keepa o c5_o53_0
    have ac5_o53_1 := fun o => keepa o c5_o53_1
    have ac5_o53_2 := fun o => keepa o c5_o53_2
    have ac5_o53_3 := fun o => keepa o c5_o53_3
    have ac5_o53_4 := fun o => keepa o c5_o53_4
    have ac5_o53_5 := fun o => keepa o c5_o53_5
    have ac5_o55_0 := fun o => keepa o c5_o55_0
    have ac5_o55_1 := fun o => keepa o c5_o55_1
    have ac5_o55_2 := fun o => keepa o c5_o55_2
    have rP0 := P0.out.below hb'; clear P0; have P0 := Lib.hid rP0; clear rP0
    have rP1 := P1.out.below hb'; clear P1; have P1 := Lib.hid rP1; clear rP1
    have rFo53 := Fo53.out.below hb'; clear Fo53; have Fo53 := Lib.hid rFo53; clear rFo53
    have rFo55 := Fo55.out.below hb'; clear Fo55; have Fo55 := Lib.hid rFo55; clear rFo55
    have rB := below_chain B.out (by omega) hb'; clear B; have B := Lib.hid rB; clear rB
    have Fo61 := Lib.hid q5; clear q5
    have hm0_o61 := hx0_5
    have hI0_o61 : ∀ t ∈ js057, t.n ≤ 1000000000 := hi_of ((P1.out.rd).left.left) ((Fo61.out.rd).left.left) hx0_5 hI0_a1
    have hSm0_o61 : sumN js057 ≤ sumN its1 := sum_of ((P1.out.rd).left.left) ((Fo61.out.rd).left.left) hx0_5
    have hm1_o61 := hx1_5
    have hI1_o61 : ∀ t ∈ js159, t.n ≤ 1000000000 := hi_of ((P1.out.rd).left.right) ((Fo61.out.rd).left.right) hx1_5 hI1_a1
    have hSm1_o61 : sumN js159 ≤ sumN jts1 := sum_of ((P1.out.rd).left.right) ((Fo61.out.rd).left.right) hx1_5
    clear hb hb'
    go_wp2_with fail
    refine (iNormalFormula_c _ _ _ _ _ _ _ _ _ _ _ _ _ _ _ _ _ _ _ _ _ _ (by exact ((Fo55.out.rd).alloc _)) (by exact ((Fo61.out.rd).alloc _)) (by omega) (by omega) (by omega) (by omega) hI0_o61 hI1_o61 hm0_o61 hm1_o61 HRR.out).mono ?_
    rintro e w6 ⟨A62, n63, c64, its65, B66, m67, d68, jts69, C70, k71, e72, rfl, q73, l74, hb⟩
    try simp only [World.size_alloc] at q73
    have hb' : Below w5.heap.size w5 w6 := (by first | (with_reducible exact hb) | (with_reducible exact up1 hb) | (with_reducible exact up2 hb) | (with_reducible exact up3 hb) | (with_reducible exact up4 hb) | (with_reducible exact below_of_drew hb) | (with_reducible exact below_of_drew (up1 hb)))
    have z6 := hb'.size
    have c6_a0_0 : w6.cell? ⟨w.heap.size, 0, none⟩ = some (.int .i64 sy0) := keepc hb' c5_a0_0
    clear c5_a0_0 ac5_a0_0
    have c6_a0_1 : w6.cell? ⟨w.heap.size, 1, none⟩ = some (.int .i64 st0) := keepc hb' c5_a0_1
    clear c5_a0_1 ac5_a0_1
    have c6_a0_2 : w6.cell? ⟨w.heap.size, 2, none⟩ = some (.slice A0 n0 c0) := keepc hb' c5_a0_2
    clear c5_a0_2 ac5_a0_2
    have c6_a1_0 : w6.cell? ⟨(w.heap.size + 1), 0, none⟩ = some (.int .i64 st1) := keepc hb' c5_a1_0
    clear c5_a1_0 ac5_a1_0
    have c6_a1_1 : w6.cell? ⟨(w.heap.size + 1), 1, none⟩ = some (.int .i64 hd1) := keepc hb' c5_a1_1
    clear c5_a1_1 ac5_a1_1
    have c6_a1_2 : w6.cell? ⟨(w.heap.size + 1), 2, none⟩ = some (.int .i64 at1) := keepc hb' c5_a1_2
    clear c5_a1_2 ac5_a1_2
    have c6_a1_3 : w6.cell? ⟨(w.heap.size + 1), 3, none⟩ = some (.slice A1 n1 c1) := keepc hb' c5_a1_3
    clear c5_a1_3 ac5_a1_3
    have c6_a1_4 : w6.cell? ⟨(w.heap.size + 1), 4, none⟩ = some (.slice B1 m1 d1) := keepc hb' c5_a1_4
    clear c5_a1_4 ac5_a1_4
    have c6_a1_5 : w6.cell? ⟨(w.heap.size + 1), 5, none⟩ = some (.slice C1 k1 e1) := keepc hb' c5_a1_5
    clear c5_a1_5 ac5_a1_5
    have c6_o53_0 : w6.cell? ⟨g22, 0, none⟩ = some (.int .i64 RR.1.1) := keepc hb' c5_o53_0
    clear c5_o53_0 ac5_o53_0
    have c6_o53_1 : w6.cell? ⟨g22, 1, none⟩ = some (.int .i64 RR.1.2.1) := keepc hb' c5_o53_1
    clear c5_o53_1 ac5_o53_1
    have c6_o53_2 : w6.cell? ⟨g22, 2, none⟩ = some (.int .i64 RR.1.2.2.1) := keepc hb' c5_o53_2
    clear c5_o53_2 ac5_o53_2
    have c6_o53_3 : w6.cell? ⟨g22, 3, none⟩ = some (.slice A11 n12 c13) := keepc hb' c5_o53_3
    clear c5_o53_3 ac5_o53_3
    have c6_o53_4 : w6.cell? ⟨g22, 4, none⟩ = some (.slice B15 m16 d17) := keepc hb' c5_o53_4
    clear c5_o53_4 ac5_o53_4
    have c6_o53_5 : w6.cell? ⟨g22, 5, none⟩ = some (.slice C19 k20 e21) := keepc hb' c5_o53_5
    clear c5_o53_5 ac5_o53_5
    have c6_o55_0 : w6.cell? ⟨w4.heap.size, 0, none⟩ = some (.int .i64 sy0) := keepc hb' c5_o55_0
    clear c5_o55_0 ac5_o55_0
    have c6_o55_1 : w6.cell? ⟨w4.heap.size, 1, none⟩ = some (.int .i64 st0) := keepc hb' c5_o55_1
    clear c5_o55_1 ac5_o55_1
    have c6_o55_2 : w6.cell? ⟨w4.heap.size, 2, none⟩ = some (.slice (some ⟨g054, 0, none⟩) n0 n0) := keepc hb' c5_o55_2
    clear c5_o55_2 ac5_o55_2
    have c6_o61_0 : w6.cell? ⟨w5.heap.size, 0, none⟩ = some (.int .i64 st1) := keepc hb (by first | (simp; done) | (rw [World.cell?_alloc_past _ _ _ (by simp <;> omega)]; simp; done) | (rw [World.cell?_alloc_past _ _ _ (by simp <;> omega), World.cell?_alloc_past _ _ _ (by simp <;> omega)]; simp; done) | (rw [World.cell?_alloc_past _ _ _ (by simp <;> omega), World.cell?_alloc_past _ _ _ (by simp <;> omega), World.cell?_alloc_past _ _ _ (by simp <;> omega)]; simp; done) | (rw [World.cell?_alloc_at _ _ _ _ (by simp)]; simp; done) | (rw [World.cell?_alloc_past _ _ _ (by simp <;> omega), World.cell?_alloc_at _ _ _ _ (by simp)]; simp; done) | (rw [World.cell?_alloc_past _ _ _ (by simp <;> omega), World.cell?_alloc_past _ _ _ (by simp <;> omega), World.cell?_alloc_at _ _ _ _ (by simp)]; simp; done) | (rw [World.cell?_alloc_past _ _ _ (by simp <;> omega), World.cell?_alloc_past _ _ _ (by simp <;> omega), World.cell?_alloc_past _ _ _ (by simp <;> omega), World.cell?_alloc_at _ _ _ _ (by simp)]; simp; done))
    have hl_c6_o61_0 : w5.heap.size < w6.heap.size := World.block_lt_of_cell? w6 _ c6_o61_0
    have c6_o61_1 : w6.cell? ⟨w5.heap.size, 1, none⟩ = some (.int .i64 hd1) := keepc hb (by first | (simp; done) | (rw [World.cell?_alloc_past _ _ _ (by simp <;> omega)]; simp; done) | (rw [World.cell?_alloc_past _ _ _ (by simp <;> omega), World.cell?_alloc_past _ _ _ (by simp <;> omega)]; simp; done) | (rw [World.cell?_alloc_past _ _ _ (by simp <;> omega), World.cell?_alloc_past _ _ _ (by simp <;> omega), World.cell?_alloc_past _ _ _ (by simp <;> omega)]; simp; done) | (rw [World.cell?_alloc_at _ _ _ _ (by simp)]; simp; done) | (rw [World.cell?_alloc_past _ _ _ (by simp <;> omega), World.cell?_alloc_at _ _ _ _ (by simp)]; simp; done) | (rw [World.cell?_alloc_past _ _ _ (by simp <;> omega), World.cell?_alloc_past _ _ _ (by simp <;> omega), World.cell?_alloc_at _ _ _ _ (by simp)]; simp; done) | (rw [World.cell?_alloc_past _ _ _ (by simp <;> omega), World.cell?_alloc_past _ _ _ (by simp <;> omega), World.cell?_alloc_past _ _ _ (by simp <;> omega), World.cell?_alloc_at _ _ _ _ (by simp)]; simp; done))
    have c6_o61_2 : w6.cell? ⟨w5.heap.size, 2, none⟩ = some (.int .i64 at1) := keepc hb (by first | (simp; done) | (rw [World.cell?_alloc_past _ _ _ (by simp <;> omega)]; simp; done) | (rw [World.cell?_alloc_past _ _ _ (by simp <;> omega), World.cell?_alloc_past _ _ _ (by simp <;> omega)]; simp; done) | (rw [World.cell?_alloc_past _ _ _ (by simp <;> omega), World.cell?_alloc_past _ _ _ (by simp <;> omega), World.cell?_alloc_past _ _ _ (by simp <;> omega)]; simp; done) | (rw [World.cell?_alloc_at _ _ _ _ (by simp)]; simp; done) | (rw [World.cell?_alloc_past _ _ _ (by simp <;> omega), World.cell?_alloc_at _ _ _ _ (by simp)]; simp; done) | (rw [World.cell?_alloc_past _ _ _ (by simp <;> omega), World.cell?_alloc_past _ _ _ (by simp <;> omega), World.cell?_alloc_at _ _ _ _ (by simp)]; simp; done) | (rw [World.cell?_alloc_past _ _ _ (by simp <;> omega), World.cell?_alloc_past _ _ _ (by simp <;> omega), World.cell?_alloc_past _ _ _ (by simp <;> omega), World.cell?_alloc_at _ _ _ _ (by simp)]; simp; done))
    have c6_o61_3 : w6.cell? ⟨w5.heap.size, 3, none⟩ = some (.slice (some ⟨g056, 0, none⟩) n1 n1) := keepc hb (by first | (simp; done) | (rw [World.cell?_alloc_past _ _ _ (by simp <;> omega)]; simp; done) | (rw [World.cell?_alloc_past _ _ _ (by simp <;> omega), World.cell?_alloc_past _ _ _ (by simp <;> omega)]; simp; done) | (rw [World.cell?_alloc_past _ _ _ (by simp <;> omega), World.cell?_alloc_past _ _ _ (by simp <;> omega), World.cell?_alloc_past _ _ _ (by simp <;> omega)]; simp; done) | (rw [World.cell?_alloc_at _ _ _ _ (by simp)]; simp; done) | (rw [World.cell?_alloc_past _ _ _ (by simp <;> omega), World.cell?_alloc_at _ _ _ _ (by simp)]; simp; done) | (rw [World.cell?_alloc_past _ _ _ (by simp <;> omega), World.cell?_alloc_past _ _ _ (by simp <;> omega), World.cell?_alloc_at _ _ _ _ (by simp)]; simp; done) | (rw [World.cell?_alloc_past _ _ _ (by simp <;> omega), World.cell?_alloc_past _ _ _ (by simp <;> omega), World.cell?_alloc_past _ _ _ (by simp <;> omega), World.cell?_alloc_at _ _ _ _ (by simp)]; simp; done))
    have c6_o61_4 : w6.cell? ⟨w5.heap.size, 4, none⟩ = some (.slice (some ⟨g158, 0, none⟩) m1 m1) := keepc hb (by first | (simp; done) | (rw [World.cell?_alloc_past _ _ _ (by simp <;> omega)]; simp; done) | (rw [World.cell?_alloc_past _ _ _ (by simp <;> omega), World.cell?_alloc_past _ _ _ (by simp <;> omega)]; simp; done) | (rw [World.cell?_alloc_past _ _ _ (by simp <;> omega), World.cell?_alloc_past _ _ _ (by simp <;> omega), World.cell?_alloc_past _ _ _ (by simp <;> omega)]; simp; done) | (rw [World.cell?_alloc_at _ _ _ _ (by simp)]; simp; done) | (rw [World.cell?_alloc_past _ _ _ (by simp <;> omega), World.cell?_alloc_at _ _ _ _ (by simp)]; simp; done) | (rw [World.cell?_alloc_past _ _ _ (by simp <;> omega), World.cell?_alloc_past _ _ _ (by simp <;> omega), World.cell?_alloc_at _ _ _ _ (by simp)]; simp; done) | (rw [World.cell?_alloc_past _ _ _ (by simp <;> omega), World.cell?_alloc_past _ _ _ (by simp <;> omega), World.cell?_alloc_past _ _ _ (by simp <;> omega), World.cell?_alloc_at _ _ _ _ (by simp)]; simp; done))
    have c6_o61_5 : w6.cell? ⟨w5.heap.size, 5, none⟩ = some (.slice (some ⟨g260, 0, none⟩) k1 k1) := keepc hb (by first | (simp; done) | (rw [World.cell?_alloc_past _ _ _ (by simp <;> omega)]; simp; done) | (rw [World.cell?_alloc_past _ _ _ (by simp <;> omega), World.cell?_alloc_past _ _ _ (by simp <;> omega)]; simp; done) | (rw [World.cell?_alloc_past _ _ _ (by simp <;> omega), World.cell?_alloc_past _ _ _ (by simp <;> omega), World.cell?_alloc_past _ _ _ (by simp <;> omega)]; simp; done) | (rw [World.cell?_alloc_at _ _ _ _ (by simp)]; simp; done) | (rw [World.cell?_alloc_past _ _ _ (by simp <;> omega), World.cell?_alloc_at _ _ _ _ (by simp)]; simp; done) | (rw [World.cell?_alloc_past _ _ _ (by simp <;> omega), World.cell?_alloc_past _ _ _ (by simp <;> omega), World.cell?_alloc_at _ _ _ _ (by simp)]; simp; done) | (rw [World.cell?_alloc_past _ _ _ (by simp <;> omega), World.cell?_alloc_past _ _ _ (by simp <;> omega), World.cell?_alloc_past _ _ _ (by simp <;> omega), World.cell?_alloc_at _ _ _ _ (by simp)]; simp; done))
    have ac6_a0_0 := fun o => keepa o c6_a0_0
    have ac6_a0_1 := fun o => keepa o c6_a0_1
    have ac6_a0_2 := fun o => keepa o c6_a0_2
    have ac6_a1_0 := fun o => keepa o c6_a1_0
    have ac6_a1_1 := fun o => keepa o c6_a1_1
    have ac6_a1_2 := fun o => keepa o c6_a1_2
    have ac6_a1_3 := fun o => keepa o c6_a1_3
    have ac6_a1_4 := fun o => keepa o c6_a1_4
    have ac6_a1_5 := fun o => keepa o c6_a1_5
    have ac6_o53_0 := fun o => keepa o c6_o53_0
    have ac6_o53_1 := fun o => keepa o c6_o53_1
    have ac6_o53_2 := fun o => keepa o c6_o53_2
    have ac6_o53_3 := fun o => keepa o c6_o53_3
    have ac6_o53_4 := fun o => keepa o c6_o53_4
    have ac6_o53_5 := fun o => keepa o c6_o53_5
    have ac6_o55_0 := fun o => keepa o c6_o55_0
    have ac6_o55_1 := fun o => keepa o c6_o55_1
    have ac6_o55_2 := fun o => keepa o c6_o55_2
    have ac6_o61_0 := fun o => keepa o c6_o61_0
    have ac6_o61_1 := fun o => keepa o c6_o61_1
    have ac6_o61_2 := fun o => keepa o c6_o61_2
    have ac6_o61_3 := fun o => keepa o c6_o61_3
    have ac6_o61_4 := fun o => keepa o c6_o61_4
    have ac6_o61_5 := fun o => keepa o c6_o61_5
    have rP0 := P0.out.below hb'; clear P0; have P0 := Lib.hid rP0; clear rP0
    have rP1 := P1.out.below hb'; clear P1; have P1 := Lib.hid rP1; clear rP1
    have rFo53 := Fo53.out.below hb'; clear Fo53; have Fo53 := Lib.hid rFo53; clear rFo53
    have rFo55 := Fo55.out.below hb'; clear Fo55; have Fo55 := Lib.hid rFo55; clear rFo55
    have rFo61 := Fo61.out.below hb'; clear Fo61; have Fo61 := Lib.hid rFo61; clear rFo61
    have rB := below_chain B.out (by omega) hb'; clear B; have B := Lib.hid rB; clear rB
    have Fo75 := Lib.hid q73; clear q73
    obtain ⟨ln_o75, ln_o75_1, ln_o75_2, bI0_o75, hs0_o75, bm0_o75, bI1_o75, hs1_o75, bm1_o75⟩ := l74
    have hI0_o75 := (fun t ht => Nat.le_trans (bI0_o75 t ht) (by omega) : ∀ t ∈ its65, t.n ≤ 1000000000); have hm0_o75 := Lib.hid bm0_o75; clear bI0_o75 bm0_o75
    have hI1_o75 := (fun t ht => Nat.le_trans (bI1_o75 t ht) (by omega) : ∀ t ∈ jts69, t.n ≤ 1000000000); have hm1_o75 := Lib.hid bm1_o75; clear bI1_o75 bm1_o75
    clear hb hb'
    go_wp2_with fail
    refine (eqFormula_t _ _ _ _ _ _ _ _ _ _ _ _ _ _ _ _ _ _ _ _ _ _ _ _ _ _ _ (by exact ((Fo75.out.rd).alloc _)) (by exact ((Fo53.out.rd).alloc _)) (by omega) (by omega) (by omega) hI0_o75 (hm0_o75.out.trans hm0_o53.out.symm) hI1_o75 (hm1_o75.out.trans hm1_o53.out.symm)).mono ?_
    rintro e w7 ⟨rfl, hb⟩
    have hb' : Below w6.heap.size w6 w7 := (by first | (with_reducible exact hb) | (with_reducible exact up1 hb) | (with_reducible exact up2 hb) | (with_reducible exact up3 hb) | (with_reducible exact up4 hb) | (with_reducible exact below_of_drew hb) | (with_reducible exact below_of_drew (up1 hb)))
    have z7 := hb'.size
    have c7_a0_0 : w7.cell? ⟨w.heap.size, 0, none⟩ = some (.int .i64 sy0) := keepc hb' c6_a0_0
    clear c6_a0_0 ac6_a0_0
    have c7_a0_1 : w7.cell? ⟨w.heap.size, 1, none⟩ = some (.int .i64 st0) := keepc hb' c6_a0_1
    clear c6_a0_1 ac6_a0_1
    have c7_a0_2 : w7.cell? ⟨w.heap.size, 2, none⟩ = some (.slice A0 n0 c0) := keepc hb' c6_a0_2
    clear c6_a0_2 ac6_a0_2
    have c7_a1_0 : w7.cell? ⟨(w.heap.size + 1), 0, none⟩ = some (.int .i64 st1) := keepc hb' c6_a1_0
    clear c6_a1_0 ac6_a1_0
    have c7_a1_1 : w7.cell? ⟨(w.heap.size + 1), 1, none⟩ = some (.int .i64 hd1) := keepc hb' c6_a1_1
    clear c6_a1_1 ac6_a1_1
    have c7_a1_2 : w7.cell? ⟨(w.heap.size + 1), 2, none⟩ = some (.int .i64 at1) := keepc hb' c6_a1_2
    clear c6_a1_2 ac6_a1_2
    have c7_a1_3 : w7.cell? ⟨(w.heap.size + 1), 3, none⟩ = some (.slice A1 n1 c1) := keepc hb' c6_a1_3
    clear c6_a1_3 ac6_a1_3
    have c7_a1_4 : w7.cell? ⟨(w.heap.size + 1), 4, none⟩ = some (.slice B1 m1 d1) := keepc hb' c6_a1_4
    clear c6_a1_4 ac6_a1_4
    have c7_a1_5 : w7.cell? ⟨(w.heap.size + 1), 5, none⟩ = some (.slice C1 k1 e1) := keepc hb' c6_a1_5
    clear c6_a1_5 ac6_a1_5
    have c7_o53_0 : w7.cell? ⟨g22, 0, none⟩ = some (.int .i64 RR.1.1) := keepc hb' c6_o53_0
    clear c6_o53_0 ac6_o53_0
    have c7_o53_1 : w7.cell? ⟨g22, 1, none⟩ = some (.int .i64 RR.1.2.1) := keepc hb' c6_o53_1
    clear c6_o53_1 ac6_o53_1
    have c7_o53_2 : w7.cell? ⟨g22, 2, none⟩ = some (.int .i64 RR.1.2.2.1) := keepc hb' c6_o53_2
    clear c6_o53_2 ac6_o53_2
    have c7_o53_3 : w7.cell? ⟨g22, 3, none⟩ = some (.slice A11 n12 c13) := keepc hb' c6_o53_3
    clear c6_o53_3 ac6_o53_3
    have c7_o53_4 : w7.cell? ⟨g22, 4, none⟩ = some (.slice B15 m16 d17) := keepc hb' c6_o53_4
    clear c6_o53_4 ac6_o53_4
    have c7_o53_5 : w7.cell? ⟨g22, 5, none⟩ = some (.slice C19 k20 e21) := keepc hb' c6_o53_5
    clear c6_o53_5 ac6_o53_5
    have c7_o55_0 : w7.cell? ⟨w4.heap.size, 0, none⟩ = some (.int .i64 sy0) := keepc hb' c6_o55_0
    clear c6_o55_0 ac6_o55_0
    have c7_o55_1 : w7.cell? ⟨w4.heap.size, 1, none⟩ = some (.int .i64 st0) := keepc hb' c6_o55_1
    clear c6_o55_1 ac6_o55_1
    have c7_o55_2 : w7.cell? ⟨w4.heap.size, 2, none⟩ = some (.slice (some ⟨g054, 0, none⟩) n0 n0) := keepc hb' c6_o55_2
    clear c6_o55_2 ac6_o55_2
    have c7_o61_0 : w7.cell? ⟨w5.heap.size, 0, none⟩ = some (.int .i64 st1) := keepc hb' c6_o61_0
    clear c6_o61_0 ac6_o61_0
    have c7_o61_1 : w7.cell? ⟨w5.heap.size, 1, none⟩ = some (.int .i64 hd1) := keepc hb' c6_o61_1
    clear c6_o61_1 ac6_o61_1
    have c7_o61_2 : w7.cell? ⟨w5.heap.size, 2, none⟩ = some (.int .i64 at1) := keepc hb' c6_o61_2
    clear c6_o61_2 ac6_o61_2
    have c7_o61_3 : w7.cell? ⟨w5.heap.size, 3, none⟩ = some (.slice (some ⟨g056, 0, none⟩) n1 n1) := keepc hb' c6_o61_3
    clear c6_o61_3 ac6_o61_3
    have c7_o61_4 : w7.cell? ⟨w5.heap.size, 4, none⟩ = some (.slice (some ⟨g158, 0, none⟩) m1 m1) := keepc hb' c6_o61_4
    clear c6_o61_4 ac6_o61_4
    have c7_o61_5 : w7.cell? ⟨w5.heap.size, 5, none⟩ = some (.slice (some ⟨g260, 0, none⟩) k1 k1) := keepc hb' c6_o61_5
    clear c6_o61_5 ac6_o61_5
    have c7_o75_0 : w7.cell? ⟨w6.heap.size, 0, none⟩ = some (.int .i64 RR.1.1) := keepc hb (by first | (simp; done) | (rw [World.cell?_alloc_past _ _ _ (by simp <;> omega)]; simp; done) | (rw [World.cell?_alloc_past _ _ _ (by simp <;> omega), World.cell?_alloc_past _ _ _ (by simp <;> omega)]; simp; done) | (rw [World.cell?_alloc_past _ _ _ (by simp <;> omega), World.cell?_alloc_past _ _ _ (by simp <;> omega), World.cell?_alloc_past _ _ _ (by simp <;> omega)]; simp; done) | (rw [World.cell?_alloc_at _ _ _ _ (by simp)]; simp; done) | (rw [World.cell?_alloc_past _ _ _ (by simp <;> omega), World.cell?_alloc_at _ _ _ _ (by simp)]; simp; done) | (rw [World.cell?_alloc_past _ _ _ (by simp <;> omega), World.cell?_alloc_past _ _ _ (by simp <;> omega), World.cell?_alloc_at _ _ _ _ (by simp)]; simp; done) | (rw [World.cell?_alloc_past _ _ _ (by simp <;> omega), World.cell?_alloc_past _ _ _ (by simp <;> omega), World.cell?_alloc_past _ _ _ (by simp <;> omega), World.cell?_alloc_at _ _ _ _ (by simp)]; simp; done))
    have hl_c7_o75_0 : w6.heap.size < w7.heap.size := World.block_lt_of_cell? w7 _ c7_o75_0
    have c7_o75_1 : w7.cell? ⟨w6.heap.size, 1, none⟩ = some (.int .i64 RR.1.2.1) := keepc hb (by first | (simp; done) | (rw [World.cell?_alloc_past _ _ _ (by simp <;> omega)]; simp; done) | (rw [World.cell?_alloc_past _ _ _ (by simp <;> omega), World.cell?_alloc_past _ _ _ (by simp <;> omega)]; simp; done) | (rw [World.cell?_alloc_past _ _ _ (by simp <;> omega), World.cell?_alloc_past _ _ _ (by simp <;> omega), World.cell?_alloc_past _ _ _ (by simp <;> omega)]; simp; done) | (rw [World.cell?_alloc_at _ _ _ _ (by simp)]; simp; done) | (rw [World.cell?_alloc_past _ _ _ (by simp <;> omega), World.cell?_alloc_at _ _ _ _ (by simp)]; simp; done) | (rw [World.cell?_alloc_past _ _ _ (by simp <;> omega), World.cell?_alloc_past _ _ _ (by simp <;> omega), World.cell?_alloc_at _ _ _ _ (by simp)]; simp; done) | (rw [World.cell?_alloc_past _ _ _ (by simp <;> omega), World.cell?_alloc_past _ _ _ (by simp <;> omega), World.cell?_alloc_past _ _ _ (by simp <;> omega), World.cell?_alloc_at _ _ _ _ (by simp)]; simp; done))
    have c7_o75_2 : w7.cell? ⟨w6.heap.size, 2, none⟩ = some (.int .i64 RR.1.2.2.1) := keepc hb (by first | (simp; done) | (rw [World.cell?_alloc_past _ _ _ (by simp <;> omega)]; simp; done) | (rw [World.cell?_alloc_past _ _ _ (by simp <;> omega), World.cell?_alloc_past _ _ _ (by simp <;> omega)]; simp; done) | (rw [World.cell?_alloc_past _ _ _ (by simp <;> omega), World.cell?_alloc_past _ _ _ (by simp <;> omega), World.cell?_alloc_past _ _ _ (by simp <;> omega)]; simp; done) | (rw [World.cell?_alloc_at _ _ _ _ (by simp)]; simp; done) | (rw [World.cell?_alloc_past _ _ _ (by simp <;> omega), World.cell?_alloc_at _ _ _ _ (by simp)]; simp; done) | (rw [World.cell?_alloc_past _ _ _ (by simp <;> omega), World.cell?_alloc_past _ _ _ (by simp <;> omega), World.cell?_alloc_at _ _ _ _ (by simp)]; simp; done) | (rw [World.cell?_alloc_past _ _ _ (by simp <;> omega), World.cell?_alloc_past _ _ _ (by simp <;> omega), World.cell?_alloc_past _ _ _ (by simp <;> omega), World.cell?_alloc_at _ _ _ _ (by simp)]; simp; done))
    have c7_o75_3 : w7.cell? ⟨w6.heap.size, 3, none⟩ = some (.slice A62 n63 c64) := keepc hb (by first | (simp; done) | (rw [World.cell?_alloc_past _ _ _ (by simp <;> omega)]; simp; done) | (rw [World.cell?_alloc_past _ _ _ (by simp <;> omega), World.cell?_alloc_past _ _ _ (by simp <;> omega)]; simp; done) | (rw [World.cell?_alloc_past _ _ _ (by simp <;> omega), World.cell?_alloc_past _ _ _ (by simp <;> omega), World.cell?_alloc_past _ _ _ (by simp <;> omega)]; simp; done) | (rw [World.cell?_alloc_at _ _ _ _ (by simp)]; simp; done) | (rw [World.cell?_alloc_past _ _ _ (by simp <;> omega), World.cell?_alloc_at _ _ _ _ (by simp)]; simp; done) | (rw [World.cell?_alloc_past _ _ _ (by simp <;> omega), World.cell?_alloc_past _ _ _ (by simp <;> omega), World.cell?_alloc_at _ _ _ _ (by simp)]; simp; done) | (rw [World.cell?_alloc_past _ _ _ (by simp <;> omega), World.cell?_alloc_past _ _ _ (by simp <;> omega), World.cell?_alloc_past _ _ _ (by simp <;> omega), World.cell?_alloc_at _ _ _ _ (by simp)]; simp; done))
    have c7_o75_4 : w7.cell? ⟨w6.heap.size, 4, none⟩ = some (.slice B66 m67 d68) := keepc hb (by first | (simp; done) | (rw [World.cell?_alloc_past _ _ _ (by simp <;> omega)]; simp; done) | (rw [World.cell?_alloc_past _ _ _ (by simp <;> omega), World.cell?_alloc_past _ _ _ (by simp <;> omega)]; simp; done) | (rw [World.cell?_alloc_past _ _ _ (by simp <;> omega), World.cell?_alloc_past _ _ _ (by simp <;> omega), World.cell?_alloc_past _ _ _ (by simp <;> omega)]; simp; done) | (rw [World.cell?_alloc_at _ _ _ _ (by simp)]; simp; done) | (rw [World.cell?_alloc_past _ _ _ (by simp <;> omega), World.cell?_alloc_at _ _ _ _ (by simp)]; simp; done) | (rw [World.cell?_alloc_past _ _ _ (by simp <;> omega), World.cell?_alloc_past _ _ _ (by simp <;> omega), World.cell?_alloc_at _ _ _ _ (by simp)]; simp; done) | (rw [World.cell?_alloc_past _ _ _ (by simp <;> omega), World.cell?_alloc_past _ _ _ (by simp <;> omega), World.cell?_alloc_past _ _ _ (by simp <;> omega), World.cell?_alloc_at _ _ _ _ (by simp)]; simp; done))
    have c7_o75_5 : w7.cell? ⟨w6.heap.size, 5, none⟩ = some (.slice C70 k71 e72) := keepc hb (by first | (simp; done) | (rw [World.cell?_alloc_past _ _ _ (by simp <;> omega)]; simp; done) | (rw [World.cell?_alloc_past _ _ _ (by simp <;> omega), World.cell?_alloc_past _ _ _ (by simp <;> omega)]; simp; done) | (rw [World.cell?_alloc_past _ _ _ (by simp <;> omega), World.cell?_alloc_past _ _ _ (by simp <;> omega), World.cell?_alloc_past _ _ _ (by simp <;> omega)]; simp; done) | (rw [World.cell?_alloc_at _ _ _ _ (by simp)]; simp; done) | (rw [World.cell?_alloc_past _ _ _ (by simp <;> omega), World.cell?_alloc_at _ _ _ _ (by simp)]; simp; done) | (rw [World.cell?_alloc_past _ _ _ (by simp <;> omega), World.cell?_alloc_past _ _ _ (by simp <;> omega), World.cell?_alloc_at _ _ _ _ (by simp)]; simp; done) | (rw [World.cell?_alloc_past _ _ _ (by simp <;> omega), World.cell?_alloc_past _ _ _ (by simp <;> omega), World.cell?_alloc_past _ _ _ (by simp <;> omega), World.cell?_alloc_at _ _ _ _ (by simp)]; simp; done))
    have ac7_a0_0 := fun o => keepa o c7_a0_0
    have ac7_a0_1 := fun o => keepa o c7_a0_1
    have ac7_a0_2 := fun o => keepa o c7_a0_2
    have ac7_a1_0 := fun o => keepa o c7_a1_0
    have ac7_a1_1 := fun o => keepa o c7_a1_1
    have ac7_a1_2 := fun o => keepa o c7_a1_2
    have ac7_a1_3 := fun o => keepa o c7_a1_3
    have ac7_a1_4 := fun o => keepa o c7_a1_4
    have ac7_a1_5 := fun o => keepa o c7_a1_5
    have ac7_o53_0 := fun o => keepa o c7_o53_0
    have ac7_o53_1 := fun o => keepa o c7_o53_1
    have ac7_o53_2 := fun o => keepa o c7_o53_2
    have ac7_o53_3 := fun o => keepa o c7_o53_3
    have ac7_o53_4 := fun o => keepa o c7_o53_4
    have ac7_o53_5 := fun o => keepa o c7_o53_5
    have ac7_o55_0 := fun o => keepa o c7_o55_0
    have ac7_o55_1 := fun o => keepa o c7_o55_1
    have ac7_o55_2 := fun o => keepa o c7_o55_2
    have ac7_o61_0 := fun o => keepa o c7_o61_0
    have ac7_o61_1 := fun o => keepa o c7_o61_1
    have ac7_o61_2 := fun o => keepa o c7_o61_2
    have ac7_o61_3 := fun o => keepa o c7_o61_3
    have ac7_o61_4 := fun o => keepa o c7_o61_4
    have ac7_o61_5 := fun o => keepa o c7_o61_5
    have ac7_o75_0 := fun o => keepa o c7_o75_0
    have ac7_o75_1 := fun o => keepa o c7_o75_1
    have ac7_o75_2 := fun o => keepa o c7_o75_2
    have ac7_o75_3 := fun o => keepa o c7_o75_3
    have ac7_o75_4 := fun o => keepa o c7_o75_4
    have ac7_o75_5 := fun o => keepa o c7_o75_5
    have rP0 := P0.out.below hb'; clear P0; have P0 := Lib.hid rP0; clear rP0
    have rP1 := P1.out.below hb'; clear P1; have P1 := Lib.hid rP1; clear rP1
    have rFo53 := Fo53.out.below hb'; clear Fo53; have Fo53 := Lib.hid rFo53; clear rFo53
    have rFo55 := Fo55.out.below hb'; clear Fo55; have Fo55 := Lib.hid rFo55; clear rFo55
    have rFo61 := Fo61.out.below hb'; clear Fo61; have Fo61 := Lib.hid rFo61; clear rFo61
    have rFo75 := Fo75.out.below hb'; clear Fo75; have Fo75 := Lib.hid rFo75; clear rFo75
    have rB := below_chain B.out (by omega) hb'; clear B; have B := Lib.hid rB; clear rB
    clear hb hb'
    go_wp2_with fail
    have fx_c7_a0_0 := Ext.cell c7_a0_0
    have fx_c7_a0_1 := Ext.cell c7_a0_1
    have fx_c7_a0_2 := Ext.cell c7_a0_2
    have fx_c7_a1_0 := Ext.cell c7_a1_0
    have fx_c7_a1_1 := Ext.cell c7_a1_1
    have fx_c7_a1_2 := Ext.cell c7_a1_2
    have fx_c7_a1_3 := Ext.cell c7_a1_3
    have fx_c7_a1_4 := Ext.cell c7_a1_4
    have fx_c7_a1_5 := Ext.cell c7_a1_5
    have fx_c7_o53_0 := Ext.cell c7_o53_0
    have fx_c7_o53_1 := Ext.cell c7_o53_1
    have fx_c7_o53_2 := Ext.cell c7_o53_2
    have fx_c7_o53_3 := Ext.cell c7_o53_3
    have fx_c7_o53_4 := Ext.cell c7_o53_4
    have fx_c7_o53_5 := Ext.cell c7_o53_5
    have fx_c7_o55_0 := Ext.cell c7_o55_0
    have fx_c7_o55_1 := Ext.cell c7_o55_1
    have fx_c7_o55_2 := Ext.cell c7_o55_2
    have fx_c7_o61_0 := Ext.cell c7_o61_0
    have fx_c7_o61_1 := Ext.cell c7_o61_1
    have fx_c7_o61_2 := Ext.cell c7_o61_2
    have fx_c7_o61_3 := Ext.cell c7_o61_3
    have fx_c7_o61_4 := Ext.cell c7_o61_4
    have fx_c7_o61_5 := Ext.cell c7_o61_5
    have fx_c7_o75_0 := Ext.cell c7_o75_0
    have fx_c7_o75_1 := Ext.cell c7_o75_1
    have fx_c7_o75_2 := Ext.cell c7_o75_2
    have fx_c7_o75_3 := Ext.cell c7_o75_3
    have fx_c7_o75_4 := Ext.cell c7_o75_4
    have fx_c7_o75_5 := Ext.cell c7_o75_5
    refine Mix.wp_region_mix [3, 3, 1, 1, 0] (fun w' => ∃ x : Ext w7, w' = x.w) (by kernel_rfl) (by kernel_rfl) (InExt.drew _) ?_
    repeat (first | (refine Mix.wpMix_read (by rfl) ?_; go_big_quiet_step (fail); refine wpQuiet_nil ?_) | (refine Mix.wpMix_pure (by rfl) ?_; go_big_quiet_step (fail); refine wpQuiet_nil ?_))
    refine Mix.wpMix_chg (by rfl) (fun K hK => ?_)
    go_wp2_with fail
    refine (toMachine_c _ _ _ _ _ _ _ (by exact (P0.out.rd)) (by omega)).mono ?_
    rintro e w8 ⟨g076, rfl, q8, hb⟩
    have hb' : Below w7.heap.size w7 w8 := (by first | (with_reducible exact hb) | (with_reducible exact up1 hb) | (with_reducible exact up2 hb) | (with_reducible exact up3 hb) | (with_reducible exact up4 hb) | (with_reducible exact below_of_drew hb) | (with_reducible exact below_of_drew (up1 hb)))
    have z8 := hb'.size
    have c8_a0_0 : w8.cell? ⟨w.heap.size, 0, none⟩ = some (.int .i64 sy0) := keepc hb' c7_a0_0
    clear c7_a0_0 ac7_a0_0
    have c8_a0_1 : w8.cell? ⟨w.heap.size, 1, none⟩ = some (.int .i64 st0) := keepc hb' c7_a0_1
    clear c7_a0_1 ac7_a0_1
    have c8_a0_2 : w8.cell? ⟨w.heap.size, 2, none⟩ = some (.slice A0 n0 c0) := keepc hb' c7_a0_2
    clear c7_a0_2 ac7_a0_2
    have c8_a1_0 : w8.cell? ⟨(w.heap.size + 1), 0, none⟩ = some (.int .i64 st1) := keepc hb' c7_a1_0
    clear c7_a1_0 ac7_a1_0
    have c8_a1_1 : w8.cell? ⟨(w.heap.size + 1), 1, none⟩ = some (.int .i64 hd1) := keepc hb' c7_a1_1
    clear c7_a1_1 ac7_a1_1
    have c8_a1_2 : w8.cell? ⟨(w.heap.size + 1), 2, none⟩ = some (.int .i64 at1) := keepc hb' c7_a1_2
    clear c7_a1_2 ac7_a1_2
    have c8_a1_3 : w8.cell? ⟨(w.heap.size + 1), 3, none⟩ = some (.slice A1 n1 c1) := keepc hb' c7_a1_3
    clear c7_a1_3 ac7_a1_3
    have c8_a1_4 : w8.cell? ⟨(w.heap.size + 1), 4, none⟩ = some (.slice B1 m1 d1) := keepc hb' c7_a1_4
    clear c7_a1_4 ac7_a1_4
    have c8_a1_5 : w8.cell? ⟨(w.heap.size + 1), 5, none⟩ = some (.slice C1 k1 e1) := keepc hb' c7_a1_5
    clear c7_a1_5 ac7_a1_5
    have c8_o53_0 : w8.cell? ⟨g22, 0, none⟩ = some (.int .i64 RR.1.1) := keepc hb' c7_o53_0
    clear c7_o53_0 ac7_o53_0
    have c8_o53_1 : w8.cell? ⟨g22, 1, none⟩ = some (.int .i64 RR.1.2.1) := keepc hb' c7_o53_1
    clear c7_o53_1 ac7_o53_1
    have c8_o53_2 : w8.cell? ⟨g22, 2, none⟩ = some (.int .i64 RR.1.2.2.1) := keepc hb' c7_o53_2
    clear c7_o53_2 ac7_o53_2
    have c8_o53_3 : w8.cell? ⟨g22, 3, none⟩ = some (.slice A11 n12 c13) := keepc hb' c7_o53_3
    clear c7_o53_3 ac7_o53_3
    have c8_o53_4 : w8.cell? ⟨g22, 4, none⟩ = some (.slice B15 m16 d17) := keepc hb' c7_o53_4
    clear c7_o53_4 ac7_o53_4
    have c8_o53_5 : w8.cell? ⟨g22, 5, none⟩ = some (.slice C19 k20 e21) := keepc hb' c7_o53_5
    clear c7_o53_5 ac7_o53_5
    have c8_o55_0 : w8.cell? ⟨w4.heap.size, 0, none⟩ = some (.int .i64 sy0) := keepc hb' c7_o55_0
    clear c7_o55_0 ac7_o55_0
    have c8_o55_1 : w8.cell? ⟨w4.heap.size, 1, none⟩ = some (.int .i64 st0) := keepc hb' c7_o55_1
    clear c7_o55_1 ac7_o55_1
    have c8_o55_2 : w8.cell? ⟨w4.heap.size, 2, none⟩ = some (.slice (some ⟨g054, 0, none⟩) n0 n0) := keepc hb' c7_o55_2
    clear c7_o55_2 ac7_o55_2
    have c8_o61_0 : w8.cell? ⟨w5.heap.size, 0, none⟩ = some (.int .i64 st1) := keepc hb' c7_o61_0
    clear c7_o61_0 ac7_o61_0
    have c8_o61_1 : w8.cell? ⟨w5.heap.size, 1, none⟩ = some (.int .i64 hd1) := keepc hb' c7_o61_1
    clear c7_o61_1 ac7_o61_1
    have c8_o61_2 : w8.cell? ⟨w5.heap.size, 2, none⟩ = some (.int .i64 at1) := keepc hb' c7_o61_2
    clear c7_o61_2 ac7_o61_2
    have c8_o61_3 : w8.cell? ⟨w5.heap.size, 3, none⟩ = some (.slice (some ⟨g056, 0, none⟩) n1 n1) := keepc hb' c7_o61_3
    clear c7_o61_3 ac7_o61_3
    have c8_o61_4 : w8.cell? ⟨w5.heap.size, 4, none⟩ = some (.slice (some ⟨g158, 0, none⟩) m1 m1) := keepc hb' c7_o61_4
    clear c7_o61_4 ac7_o61_4
    have c8_o61_5 : w8.cell? ⟨w5.heap.size, 5, none⟩ = some (.slice (some ⟨g260, 0, none⟩) k1 k1) := keepc hb' c7_o61_5
    clear c7_o61_5 ac7_o61_5
    have c8_o75_0 : w8.cell? ⟨w6.heap.size, 0, none⟩ = some (.int .i64 RR.1.1) := keepc hb' c7_o75_0
    clear c7_o75_0 ac7_o75_0
    have c8_o75_1 : w8.cell? ⟨w6.heap.size, 1, none⟩ = some (.int .i64 RR.1.2.1) := keepc hb' c7_o75_1
    clear c7_o75_1 ac7_o75_1
    have c8_o75_2 : w8.cell? ⟨w6.heap.size, 2, none⟩ = some (.int .i64 RR.1.2.2.1) := keepc hb' c7_o75_2
    clear c7_o75_2 ac7_o75_2
    have c8_o75_3 : w8.cell? ⟨w6.heap.size, 3, none⟩ = some (.slice A62 n63 c64) := keepc hb' c7_o75_3
    clear c7_o75_3 ac7_o75_3
    have c8_o75_4 : w8.cell? ⟨w6.heap.size, 4, none⟩ = some (.slice B66 m67 d68) := keepc hb' c7_o75_4
    clear c7_o75_4 ac7_o75_4
    have c8_o75_5 : w8.cell? ⟨w6.heap.size, 5, none⟩ = some (.slice C70 k71 e72) := keepc hb' c7_o75_5
    clear c7_o75_5 ac7_o75_5
    have ac8_a0_0 := fun o => keepa o c8_a0_0
    have ac8_a0_1 := fun o => keepa o c8_a0_1
    have ac8_a0_2 := fun o => keepa o c8_a0_2
    have ac8_a1_0 := fun o => keepa o c8_a1_0
    have ac8_a1_1 := fun o => keepa o c8_a1_1
    have ac8_a1_2 := fun o => keepa o c8_a1_2
    have ac8_a1_3 := fun o => keepa o c8_a1_3
    have ac8_a1_4 := fun o => keepa o c8_a1_4
    have ac8_a1_5 := fun o => keepa o c8_a1_5
    have ac8_o53_0 := fun o => keepa o c8_o53_0
    have ac8_o53_1 := fun o => keepa o c8_o53_1
    have ac8_o53_2 := fun o => keepa o c8_o53_2
    have ac8_o53_3 := fun o => keepa o c8_o53_3
    have ac8_o53_4 := fun o => keepa o c8_o53_4
    have ac8_o53_5 := fun o => keepa o c8_o53_5
    have ac8_o55_0 := fun o => keepa o c8_o55_0
    have ac8_o55_1 := fun o => keepa o c8_o55_1
    have ac8_o55_2 := fun o => keepa o c8_o55_2
    have ac8_o61_0 := fun o => keepa o c8_o61_0
    have ac8_o61_1 := fun o => keepa o c8_o61_1
    have ac8_o61_2 := fun o => keepa o c8_o61_2
    have ac8_o61_3 := fun o => keepa o c8_o61_3
    have ac8_o61_4 := fun o => keepa o c8_o61_4
    have ac8_o61_5 := fun o => keepa o c8_o61_5
    have ac8_o75_0 := fun o => keepa o c8_o75_0
    have ac8_o75_1 := fun o => keepa o c8_o75_1
    have ac8_o75_2 := fun o => keepa o c8_o75_2
    have ac8_o75_3 := fun o => keepa o c8_o75_3
    have ac8_o75_4 := fun o => keepa o c8_o75_4
    have ac8_o75_5 := fun o => keepa o c8_o75_5
    have rP0 := P0.out.below hb'; clear P0; have P0 := Lib.hid rP0; clear rP0
    have rP1 := P1.out.below hb'; clear P1; have P1 := Lib.hid rP1; clear rP1
    have rFo53 := Fo53.out.below hb'; clear Fo53; have Fo53 := Lib.hid rFo53; clear rFo53
    have rFo55 := Fo55.out.below hb'; clear Fo55; have Fo55 := Lib.hid rFo55; clear rFo55
    have rFo61 := Fo61.out.below hb'; clear Fo61; have Fo61 := Lib.hid rFo61; clear rFo61
    have rFo75 := Fo75.out.below hb'; clear Fo75; have Fo75 := Lib.hid rFo75; clear rFo75
    have rB := below_chain B.out (by omega) hb'; clear B; have B := Lib.hid rB; clear rB
    have Fo77 := Lib.hid q8; clear q8
    have em8 : Below w7.heap.size w7 w8 := hb'
    clear hb hb'
    go_wp2_with fail
    refine hK _ _ ⟨⟨_, em8⟩, rfl⟩ ?_
    clear hK K
    refine Mix.wpMix_chg (by rfl) (fun K hK => ?_)
    go_wp2_with fail
    refine (eqMachine_t _ _ _ _ _ _ _ _ _ _ (by exact (Fo55.out.rd)) (by exact (Fo77.out.rd)) (by omega)).mono ?_
    rintro e w9 ⟨rfl, hb⟩
    have hb' : Below w8.heap.size w8 w9 := (by first | (with_reducible exact hb) | (with_reducible exact up1 hb) | (with_reducible exact up2 hb) | (with_reducible exact up3 hb) | (with_reducible exact up4 hb) | (with_reducible exact below_of_drew hb) | (with_reducible exact below_of_drew (up1 hb)))
    have z9 := hb'.size
    have c9_a0_0 : w9.cell? ⟨w.heap.size, 0, none⟩ = some (.int .i64 sy0) := keepc hb' c8_a0_0
    clear c8_a0_0 ac8_a0_0
    have c9_a0_1 : w9.cell? ⟨w.heap.size, 1, none⟩ = some (.int .i64 st0) := keepc hb' c8_a0_1
    clear c8_a0_1 ac8_a0_1
    have c9_a0_2 : w9.cell? ⟨w.heap.size, 2, none⟩ = some (.slice A0 n0 c0) := keepc hb' c8_a0_2
    clear c8_a0_2 ac8_a0_2
    have c9_a1_0 : w9.cell? ⟨(w.heap.size + 1), 0, none⟩ = some (.int .i64 st1) := keepc hb' c8_a1_0
    clear c8_a1_0 ac8_a1_0
    have c9_a1_1 : w9.cell? ⟨(w.heap.size + 1), 1, none⟩ = some (.int .i64 hd1) := keepc hb' c8_a1_1
    clear c8_a1_1 ac8_a1_1
    have c9_a1_2 : w9.cell? ⟨(w.heap.size + 1), 2, none⟩ = some (.int .i64 at1) := keepc hb' c8_a1_2
    clear c8_a1_2 ac8_a1_2
    have c9_a1_3 : w9.cell? ⟨(w.heap.size + 1), 3, none⟩ = some (.slice A1 n1 c1) := keepc hb' c8_a1_3
    clear c8_a1_3 ac8_a1_3
    have c9_a1_4 : w9.cell? ⟨(w.heap.size + 1), 4, none⟩ = some (.slice B1 m1 d1) := keepc hb' c8_a1_4
    clear c8_a1_4 ac8_a1_4
    have c9_a1_5 : w9.cell? ⟨(w.heap.size + 1), 5, none⟩ = some (.slice C1 k1 e1) := keepc hb' c8_a1_5
    clear c8_a1_5 ac8_a1_5
    have c9_o53_0 : w9.cell? ⟨g22, 0, none⟩ = some (.int .i64 RR.1.1) := keepc hb' c8_o53_0
    clear c8_o53_0 ac8_o53_0
    have c9_o53_1 : w9.cell? ⟨g22, 1, none⟩ = some (.int .i64 RR.1.2.1) := keepc hb' c8_o53_1
    clear c8_o53_1 ac8_o53_1
    have c9_o53_2 : w9.cell? ⟨g22, 2, none⟩ = some (.int .i64 RR.1.2.2.1) := keepc hb' c8_o53_2
    clear c8_o53_2 ac8_o53_2
    have c9_o53_3 : w9.cell? ⟨g22, 3, none⟩ = some (.slice A11 n12 c13) := keepc hb' c8_o53_3
    clear c8_o53_3 ac8_o53_3
    have c9_o53_4 : w9.cell? ⟨g22, 4, none⟩ = some (.slice B15 m16 d17) := keepc hb' c8_o53_4
    clear c8_o53_4 ac8_o53_4
    have c9_o53_5 : w9.cell? ⟨g22, 5, none⟩ = some (.slice C19 k20 e21) := keepc hb' c8_o53_5
    clear c8_o53_5 ac8_o53_5
    have c9_o55_0 : w9.cell? ⟨w4.heap.size, 0, none⟩ = some (.int .i64 sy0) := keepc hb' c8_o55_0
    clear c8_o55_0 ac8_o55_0
    have c9_o55_1 : w9.cell? ⟨w4.heap.size, 1, none⟩ = some (.int .i64 st0) := keepc hb' c8_o55_1
    clear c8_o55_1 ac8_o55_1
    have c9_o55_2 : w9.cell? ⟨w4.heap.size, 2, none⟩ = some (.slice (some ⟨g054, 0, none⟩) n0 n0) := keepc hb' c8_o55_2
    clear c8_o55_2 ac8_o55_2
    have c9_o61_0 : w9.cell? ⟨w5.heap.size, 0, none⟩ = some (.int .i64 st1) := keepc hb' c8_o61_0
    clear c8_o61_0 ac8_o61_0
    have c9_o61_1 : w9.cell? ⟨w5.heap.size, 1, none⟩ = some (.int .i64 hd1) := keepc hb' c8_o61_1
    clear c8_o61_1 ac8_o61_1
    have c9_o61_2 : w9.cell? ⟨w5.heap.size, 2, none⟩ = some (.int .i64 at1) := keepc hb' c8_o61_2
    clear c8_o61_2 ac8_o61_2
    have c9_o61_3 : w9.cell? ⟨w5.heap.size, 3, none⟩ = some (.slice (some ⟨g056, 0, none⟩) n1 n1) := keepc hb' c8_o61_3
    clear c8_o61_3 ac8_o61_3
    have c9_o61_4 : w9.cell? ⟨w5.heap.size, 4, none⟩ = some (.slice (some ⟨g158, 0, none⟩) m1 m1) := keepc hb' c8_o61_4
    clear c8_o61_4 ac8_o61_4
    have c9_o61_5 : w9.cell? ⟨w5.heap.size, 5, none⟩ = some (.slice (some ⟨g260, 0, none⟩) k1 k1) := keepc hb' c8_o61_5
    clear c8_o61_5 ac8_o61_5
    have c9_o75_0 : w9.cell? ⟨w6.heap.size, 0, none⟩ = some (.int .i64 RR.1.1) := keepc hb' c8_o75_0
    clear c8_o75_0 ac8_o75_0
    have c9_o75_1 : w9.cell? ⟨w6.heap.size, 1, none⟩ = some (.int .i64 RR.1.2.1) := keepc hb' c8_o75_1
    clear c8_o75_1 ac8_o75_1
    have c9_o75_2 : w9.cell? ⟨w6.heap.size, 2, none⟩ = some (.int .i64 RR.1.2.2.1) := keepc hb' c8_o75_2
    clear c8_o75_2 ac8_o75_2
    have c9_o75_3 : w9.cell? ⟨w6.heap.size, 3, none⟩ = some (.slice A62 n63 c64) := keepc hb' c8_o75_3
    clear c8_o75_3 ac8_o75_3
    have c9_o75_4 : w9.cell? ⟨w6.heap.size, 4, none⟩ = some (.slice B66 m67 d68) := keepc hb' c8_o75_4
    clear c8_o75_4 ac8_o75_4
    have c9_o75_5 : w9.cell? ⟨w6.heap.size, 5, none⟩ = some (.slice C70 k71 e72) := keepc hb' c8_o75_5
    clear c8_o75_5 ac8_o75_5
    have ac9_a0_0 := fun o => keepa o c9_a0_0
    have ac9_a0_1 := fun o => keepa o c9_a0_1
    have ac9_a0_2 := fun o => keepa o c9_a0_2
    have ac9_a1_0 := fun o => keepa o c9_a1_0
    have ac9_a1_1 := fun o => keepa o c9_a1_1
    have ac9_a1_2 := fun o => keepa o c9_a1_2
    have ac9_a1_3 := fun o => keepa o c9_a1_3
    have ac9_a1_4 := fun o => keepa o c9_a1_4
    have ac9_a1_5 := fun o => keepa o c9_a1_5
    have ac9_o53_0 := fun o => keepa o c9_o53_0
    have ac9_o53_1 := fun o => keepa o c9_o53_1
    have ac9_o53_2 := fun o => keepa o c9_o53_2
    have ac9_o53_3 := fun o => keepa o c9_o53_3
    have ac9_o53_4 := fun o => keepa o c9_o53_4
    have ac9_o53_5 := fun o => keepa o c9_o53_5
    have ac9_o55_0 := fun o => keepa o c9_o55_0
    have ac9_o55_1 := fun o => keepa o c9_o55_1
    have ac9_o55_2 := fun o => keepa o c9_o55_2
    have ac9_o61_0 := fun o => keepa o c9_o61_0
    have ac9_o61_1 := fun o => keepa o c9_o61_1
    have ac9_o61_2 := fun o => keepa o c9_o61_2
    have ac9_o61_3 := fun o => keepa o c9_o61_3
    have ac9_o61_4 := fun o => keepa o c9_o61_4
    have ac9_o61_5 := fun o => keepa o c9_o61_5
    have ac9_o75_0 := fun o => keepa o c9_o75_0
    have ac9_o75_1 := fun o => keepa o c9_o75_1
    have ac9_o75_2 := fun o => keepa o c9_o75_2
    have ac9_o75_3 := fun o => keepa o c9_o75_3
    have ac9_o75_4 := fun o => keepa o c9_o75_4
    have ac9_o75_5 := fun o => keepa o c9_o75_5
    have rP0 := P0.out.below hb'; clear P0; have P0 := Lib.hid rP0; clear rP0
    have rP1 := P1.out.below hb'; clear P1; have P1 := Lib.hid rP1; clear rP1
    have rFo53 := Fo53.out.below hb'; clear Fo53; have Fo53 := Lib.hid rFo53; clear rFo53
    have rFo55 := Fo55.out.below hb'; clear Fo55; have Fo55 := Lib.hid rFo55; clear rFo55
    have rFo61 := Fo61.out.below hb'; clear Fo61; have Fo61 := Lib.hid rFo61; clear rFo61
    have rFo75 := Fo75.out.below hb'; clear Fo75; have Fo75 := Lib.hid rFo75; clear rFo75
    have rFo77 := Fo77.out.below hb'; clear Fo77; have Fo77 := Lib.hid rFo77; clear rFo77
    have rB := below_chain B.out (by omega) hb'; clear B; have B := Lib.hid rB; clear rB
    have em9 : Below w7.heap.size w7 w9 := below_chain em8 (by omega) hb'
    clear hb hb'
    go_wp2_with fail
    refine hK _ _ ⟨⟨_, em9⟩, rfl⟩ ?_
    clear hK K
    repeat (first | (refine Mix.wpMix_read (by rfl) ?_; go_big_quiet_step (fail); refine wpQuiet_nil ?_) | (refine Mix.wpMix_pure (by rfl) ?_; go_big_quiet_step (fail); refine wpQuiet_nil ?_))
    (refine Mix.wpMix_nil ?_; try simp only [Exit.then])
    clear fx_c7_a0_0
    clear fx_c7_a0_1
    clear fx_c7_a0_2
    clear fx_c7_a1_0
    clear fx_c7_a1_1
    clear fx_c7_a1_2
    clear fx_c7_a1_3
    clear fx_c7_a1_4
    clear fx_c7_a1_5
    clear fx_c7_o53_0
    clear fx_c7_o53_1
    clear fx_c7_o53_2
    clear fx_c7_o53_3
    clear fx_c7_o53_4
    clear fx_c7_o53_5
    clear fx_c7_o55_0
    clear fx_c7_o55_1
    clear fx_c7_o55_2
    clear fx_c7_o61_0
    clear fx_c7_o61_1
    clear fx_c7_o61_2
    clear fx_c7_o61_3
    clear fx_c7_o61_4
    clear fx_c7_o61_5
    clear fx_c7_o75_0
    clear fx_c7_o75_1
    clear fx_c7_o75_2
    clear fx_c7_o75_3
    clear fx_c7_o75_4
    clear fx_c7_o75_5
    clear Fo77
    go_wp2_with fail
    have fx_c9_a0_0 := Ext.cell c9_a0_0
    have fx_c9_a0_1 := Ext.cell c9_a0_1
    have fx_c9_a0_2 := Ext.cell c9_a0_2
    have fx_c9_a1_0 := Ext.cell c9_a1_0
    have fx_c9_a1_1 := Ext.cell c9_a1_1
    have fx_c9_a1_2 := Ext.cell c9_a1_2
    have fx_c9_a1_3 := Ext.cell c9_a1_3
    have fx_c9_a1_4 := Ext.cell c9_a1_4
    have fx_c9_a1_5 := Ext.cell c9_a1_5
    have fx_c9_o53_0 := Ext.cell c9_o53_0
    have fx_c9_o53_1 := Ext.cell c9_o53_1
    have fx_c9_o53_2 := Ext.cell c9_o53_2
    have fx_c9_o53_3 := Ext.cell c9_o53_3
    have fx_c9_o53_4 := Ext.cell c9_o53_4
    have fx_c9_o53_5 := Ext.cell c9_o53_5
    have fx_c9_o55_0 := Ext.cell c9_o55_0
    have fx_c9_o55_1 := Ext.cell c9_o55_1
    have fx_c9_o55_2 := Ext.cell c9_o55_2
    have fx_c9_o61_0 := Ext.cell c9_o61_0
    have fx_c9_o61_1 := Ext.cell c9_o61_1
    have fx_c9_o61_2 := Ext.cell c9_o61_2
    have fx_c9_o61_3 := Ext.cell c9_o61_3
    have fx_c9_o61_4 := Ext.cell c9_o61_4
    have fx_c9_o61_5 := Ext.cell c9_o61_5
    have fx_c9_o75_0 := Ext.cell c9_o75_0
    have fx_c9_o75_1 := Ext.cell c9_o75_1
    have fx_c9_o75_2 := Ext.cell c9_o75_2
    have fx_c9_o75_3 := Ext.cell c9_o75_3
    have fx_c9_o75_4 := Ext.cell c9_o75_4
    have fx_c9_o75_5 := Ext.cell c9_o75_5
    refine Mix.wp_region_mix [3, 3, 1, 1, 0] (fun w' => ∃ x : Ext w9, w' = x.w) (by kernel_rfl) (by kernel_rfl) (InExt.drew _) ?_
    repeat (first | (refine Mix.wpMix_read (by rfl) ?_; go_big_quiet_step (fail); refine wpQuiet_nil ?_) | (refine Mix.wpMix_pure (by rfl) ?_; go_big_quiet_step (fail); refine wpQuiet_nil ?_))
    refine Mix.wpMix_chg (by rfl) (fun K hK => ?_)
    go_wp2_with fail
    refine (toFormula_c _ _ _ _ _ _ _ _ _ _ _ _ _ _ _ _ (by exact (P1.out.rd)) (by omega) (by omega) (by omega) hI0_a1 hI1_a1).mono ?_
    rintro e w10 ⟨g078, js079, g180, js181, g282, rfl, hx0_10, hx1_10, q10, hb⟩
    have hb' : Below w9.heap.size w9 w10 := (by first | (with_reducible exact hb) | (with_reducible exact up1 hb) | (with_reducible exact up2 hb) | (with_reducible exact up3 hb) | (with_reducible exact up4 hb) | (with_reducible exact below_of_drew hb) | (with_reducible exact below_of_drew (up1 hb)))
    have z10 := hb'.size
    have c10_a0_0 : w10.cell? ⟨w.heap.size, 0, none⟩ = some (.int .i64 sy0) := keepc hb' c9_a0_0
    clear c9_a0_0 ac9_a0_0
    have c10_a0_1 : w10.cell? ⟨w.heap.size, 1, none⟩ = some (.int .i64 st0) := keepc hb' c9_a0_1
    clear c9_a0_1 ac9_a0_1
    have c10_a0_2 : w10.cell? ⟨w.heap.size, 2, none⟩ = some (.slice A0 n0 c0) := keepc hb' c9_a0_2
    clear c9_a0_2 ac9_a0_2
    have c10_a1_0 : w10.cell? ⟨(w.heap.size + 1), 0, none⟩ = some (.int .i64 st1) := keepc hb' c9_a1_0
    clear c9_a1_0 ac9_a1_0
    have c10_a1_1 : w10.cell? ⟨(w.heap.size + 1), 1, none⟩ = some (.int .i64 hd1) := keepc hb' c9_a1_1
    clear c9_a1_1 ac9_a1_1
    have c10_a1_2 : w10.cell? ⟨(w.heap.size + 1), 2, none⟩ = some (.int .i64 at1) := keepc hb' c9_a1_2
    clear c9_a1_2 ac9_a1_2
    have c10_a1_3 : w10.cell? ⟨(w.heap.size + 1), 3, none⟩ = some (.slice A1 n1 c1) := keepc hb' c9_a1_3
    clear c9_a1_3 ac9_a1_3
    have c10_a1_4 : w10.cell? ⟨(w.heap.size + 1), 4, none⟩ = some (.slice B1 m1 d1) := keepc hb' c9_a1_4
    clear c9_a1_4 ac9_a1_4
    have c10_a1_5 : w10.cell? ⟨(w.heap.size + 1), 5, none⟩ = some (.slice C1 k1 e1) := keepc hb' c9_a1_5
    clear c9_a1_5 ac9_a1_5
    have c10_o53_0 : w10.cell? ⟨g22, 0, none⟩ = some (.int .i64 RR.1.1) := keepc hb' c9_o53_0
    clear c9_o53_0 ac9_o53_0
    have c10_o53_1 : w10.cell? ⟨g22, 1, none⟩ = some (.int .i64 RR.1.2.1) := keepc hb' c9_o53_1
    clear c9_o53_1 ac9_o53_1
    have c10_o53_2 : w10.cell? ⟨g22, 2, none⟩ = some (.int .i64 RR.1.2.2.1) := keepc hb' c9_o53_2
    clear c9_o53_2 ac9_o53_2
    have c10_o53_3 : w10.cell? ⟨g22, 3, none⟩ = some (.slice A11 n12 c13) := keepc hb' c9_o53_3
    clear c9_o53_3 ac9_o53_3
    have c10_o53_4 : w10.cell? ⟨g22, 4, none⟩ = some (.slice B15 m16 d17) := keepc hb' c9_o53_4
    clear c9_o53_4 ac9_o53_4
    have c10_o53_5 : w10.cell? ⟨g22, 5, none⟩ = some (.slice C19 k20 e21) := keepc hb' c9_o53_5
    clear c9_o53_5 ac9_o53_5
    have c10_o55_0 : w10.cell? ⟨w4.heap.size, 0, none⟩ = some (.int .i64 sy0) := keepc hb' c9_o55_0
    clear c9_o55_0 ac9_o55_0
    have c10_o55_1 : w10.cell? ⟨w4.heap.size, 1, none⟩ = some (.int .i64 st0) := keepc hb' c9_o55_1
    clear c9_o55_1 ac9_o55_1
    have c10_o55_2 : w10.cell? ⟨w4.heap.size, 2, none⟩ = some (.slice (some ⟨g054, 0, none⟩) n0 n0) := keepc hb' c9_o55_2
    clear c9_o55_2 ac9_o55_2
    have c10_o61_0 : w10.cell? ⟨w5.heap.size, 0, none⟩ = some (.int .i64 st1) := keepc hb' c9_o61_0
    clear c9_o61_0 ac9_o61_0
    have c10_o61_1 : w10.cell? ⟨w5.heap.size, 1, none⟩ = some (.int .i64 hd1) := keepc hb' c9_o61_1
    clear c9_o61_1 ac9_o61_1
    have c10_o61_2 : w10.cell? ⟨w5.heap.size, 2, none⟩ = some (.int .i64 at1) := keepc hb' c9_o61_2
    clear c9_o61_2 ac9_o61_2
    have c10_o61_3 : w10.cell? ⟨w5.heap.size, 3, none⟩ = some (.slice (some ⟨g056, 0, none⟩) n1 n1) := keepc hb' c9_o61_3
    clear c9_o61_3 ac9_o61_3
    have c10_o61_4 : w10.cell? ⟨w5.heap.size, 4, none⟩ = some (.slice (some ⟨g158, 0, none⟩) m1 m1) := keepc hb' c9_o61_4
    clear c9_o61_4 ac9_o61_4
    have c10_o61_5 : w10.cell? ⟨w5.heap.size, 5, none⟩ = some (.slice (some ⟨g260, 0, none⟩) k1 k1) := keepc hb' c9_o61_5
    clear c9_o61_5 ac9_o61_5
    have c10_o75_0 : w10.cell? ⟨w6.heap.size, 0, none⟩ = some (.int .i64 RR.1.1) := keepc hb' c9_o75_0
    clear c9_o75_0 ac9_o75_0
    have c10_o75_1 : w10.cell? ⟨w6.heap.size, 1, none⟩ = some (.int .i64 RR.1.2.1) := keepc hb' c9_o75_1
    clear c9_o75_1 ac9_o75_1
    have c10_o75_2 : w10.cell? ⟨w6.heap.size, 2, none⟩ = some (.int .i64 RR.1.2.2.1) := keepc hb' c9_o75_2
    clear c9_o75_2 ac9_o75_2
    have c10_o75_3 : w10.cell? ⟨w6.heap.size, 3, none⟩ = some (.slice A62 n63 c64) := keepc hb' c9_o75_3
    clear c9_o75_3 ac9_o75_3
    have c10_o75_4 : w10.cell? ⟨w6.heap.size, 4, none⟩ = some (.slice B66 m67 d68) := keepc hb' c9_o75_4
    clear c9_o75_4 ac9_o75_4
    have c10_o75_5 : w10.cell? ⟨w6.heap.size, 5, none⟩ = some (.slice C70 k71 e72) := keepc hb' c9_o75_5
    clear c9_o75_5 ac9_o75_5
    have ac10_a0_0 := fun o => keepa o c10_a0_0
    have ac10_a0_1 := fun o => keepa o c10_a0_1
    have ac10_a0_2 := fun o => keepa o c10_a0_2
    have ac10_a1_0 := fun o => keepa o c10_a1_0
    have ac10_a1_1 := fun o => keepa o c10_a1_1
    have ac10_a1_2 := fun o => keepa o c10_a1_2
    have ac10_a1_3 := fun o => keepa o c10_a1_3
    have ac10_a1_4 := fun o => keepa o c10_a1_4
    have ac10_a1_5 := fun o => keepa o c10_a1_5
    have ac10_o53_0 := fun o => keepa o c10_o53_0
    have ac10_o53_1 := fun o => keepa o c10_o53_1
    have ac10_o53_2 := fun o => keepa o c10_o53_2
    have ac10_o53_3 := fun o => keepa o c10_o53_3
    have ac10_o53_4 := fun o => keepa o c10_o53_4
    have ac10_o53_5 := fun o => keepa o c10_o53_5
    have ac10_o55_0 := fun o => keepa o c10_o55_0
    have ac10_o55_1 := fun o => keepa o c10_o55_1
    have ac10_o55_2 := fun o => keepa o c10_o55_2
    have ac10_o61_0 := fun o => keepa o c10_o61_0
    have ac10_o61_1 := fun o => keepa o c10_o61_1
    have ac10_o61_2 := fun o => keepa o c10_o61_2
    have ac10_o61_3 := fun o => keepa o c10_o61_3
    have ac10_o61_4 := fun o => keepa o c10_o61_4
    have ac10_o61_5 := fun o => keepa o c10_o61_5
    have ac10_o75_0 := fun o => keepa o c10_o75_0
    have ac10_o75_1 := fun o => keepa o c10_o75_1
    have ac10_o75_2 := fun o => keepa o c10_o75_2
    have ac10_o75_3 := fun o => keepa o c10_o75_3
    have ac10_o75_4 := fun o => keepa o c10_o75_4
    have ac10_o75_5 := fun o => keepa o c10_o75_5
    have rP0 := P0.out.below hb'; clear P0; have P0 := Lib.hid rP0; clear rP0
    have rP1 := P1.out.below hb'; clear P1; have P1 := Lib.hid rP1; clear rP1
    have rFo53 := Fo53.out.below hb'; clear Fo53; have Fo53 := Lib.hid rFo53; clear rFo53
    have rFo55 := Fo55.out.below hb'; clear Fo55; have Fo55 := Lib.hid rFo55; clear rFo55
    have rFo61 := Fo61.out.below hb'; clear Fo61; have Fo61 := Lib.hid rFo61; clear rFo61
    have rFo75 := Fo75.out.below hb'; clear Fo75; have Fo75 := Lib.hid rFo75; clear rFo75
    have rB := below_chain B.out (by omega) hb'; clear B; have B := Lib.hid rB; clear rB
    have Fo83 := Lib.hid q10; clear q10
    have hm0_o83 := hx0_10
    have hI0_o83 : ∀ t ∈ js079, t.n ≤ 1000000000 := hi_of ((P1.out.rd).left.left) ((Fo83.out.rd).left.left) hx0_10 hI0_a1
    have hSm0_o83 : sumN js079 ≤ sumN its1 := sum_of ((P1.out.rd).left.left) ((Fo83.out.rd).left.left) hx0_10
    have hm1_o83 := hx1_10
    have hI1_o83 : ∀ t ∈ js181, t.n ≤ 1000000000 := hi_of ((P1.out.rd).left.right) ((Fo83.out.rd).left.right) hx1_10 hI1_a1
    have hSm1_o83 : sumN js181 ≤ sumN jts1 := sum_of ((P1.out.rd).left.right) ((Fo83.out.rd).left.right) hx1_10
    have em10 : Below w9.heap.size w9 w10 := hb'
    clear hb hb'
    go_wp2_with fail
    refine hK _ _ ⟨⟨_, em10⟩, rfl⟩ ?_
    clear hK K
    refine Mix.wpMix_chg (by rfl) (fun K hK => ?_)
    go_wp2_with fail
    refine (eqFormula_t _ _ _ _ _ _ _ _ _ _ _ _ _ _ _ _ _ _ _ _ _ _ _ _ _ _ _ (by exact (Fo61.out.rd)) (by exact (Fo83.out.rd)) (by omega) (by omega) (by omega) hI0_o61 (hm0_o61.trans hm0_o83.symm) hI1_o61 (hm1_o61.trans hm1_o83.symm)).mono ?_
    rintro e w11 ⟨rfl, hb⟩
    have hb' : Below w10.heap.size w10 w11 := (by first | (with_reducible exact hb) | (with_reducible exact up1 hb) | (with_reducible exact up2 hb) | (with_reducible exact up3 hb) | (with_reducible exact up4 hb) | (with_reducible exact below_of_drew hb) | (with_reducible exact below_of_drew (up1 hb)))
    have z11 := hb'.size
    have c11_a0_0 : w11.cell? ⟨w.heap.size, 0, none⟩ = some (.int .i64 sy0) := keepc hb' c10_a0_0
    clear c10_a0_0 ac10_a0_0
    have c11_a0_1 : w11.cell? ⟨w.heap.size, 1, none⟩ = some (.int .i64 st0) := keepc hb' c10_a0_1
    clear c10_a0_1 ac10_a0_1
    have c11_a0_2 : w11.cell? ⟨w.heap.size, 2, none⟩ = some (.slice A0 n0 c0) := keepc hb' c10_a0_2
    clear c10_a0_2 ac10_a0_2
    have c11_a1_0 : w11.cell? ⟨(w.heap.size + 1), 0, none⟩ = some (.int .i64 st1) := keepc hb' c10_a1_0
    clear c10_a1_0 ac10_a1_0
    have c11_a1_1 : w11.cell? ⟨(w.heap.size + 1), 1, none⟩ = some (.int .i64 hd1) := keepc hb' c10_a1_1
    clear c10_a1_1 ac10_a1_1
    have c11_a1_2 : w11.cell? ⟨(w.heap.size + 1), 2, none⟩ = some (.int .i64 at1) := keepc hb' c10_a1_2
    clear c10_a1_2 ac10_a1_2
    have c11_a1_3 : w11.cell? ⟨(w.heap.size + 1), 3, none⟩ = some (.slice A1 n1 c1) := keepc hb' c10_a1_3
    clear c10_a1_3 ac10_a1_3
    have c11_a1_4 : w11.cell? ⟨(w.heap.size + 1), 4, none⟩ = some (.slice B1 m1 d1) := keepc hb' c10_a1_4
    clear c10_a1_4 ac10_a1_4
    have c11_a1_5 : w11.cell? ⟨(w.heap.size + 1), 5, none⟩ = some (.slice C1 k1 e1) := keepc hb' c10_a1_5
    clear c10_a1_5 ac10_a1_5
    have c11_o53_0 : w11.cell? ⟨g22, 0, none⟩ = some (.int .i64 RR.1.1) := keepc hb' c10_o53_0
    clear c10_o53_0 ac10_o53_0
    have c11_o53_1 : w11.cell? ⟨g22, 1, none⟩ = some (.int .i64 RR.1.2.1) := keepc hb' c10_o53_1
    clear c10_o53_1 ac10_o53_1
    have c11_o53_2 : w11.cell? ⟨g22, 2, none⟩ = some (.int .i64 RR.1.2.2.1) := keepc hb' c10_o53_2
    clear c10_o53_2 ac10_o53_2
    have c11_o53_3 : w11.cell? ⟨g22, 3, none⟩ = some (.slice A11 n12 c13) := keepc hb' c10_o53_3
    clear c10_o53_3 ac10_o53_3
    have c11_o53_4 : w11.cell? ⟨g22, 4, none⟩ = some (.slice B15 m16 d17) := keepc hb' c10_o53_4
    clear c10_o53_4 ac10_o53_4
    have c11_o53_5 : w11.cell? ⟨g22, 5, none⟩ = some (.slice C19 k20 e21) := keepc hb' c10_o53_5
    clear c10_o53_5 ac10_o53_5
    have c11_o55_0 : w11.cell? ⟨w4.heap.size, 0, none⟩ = some (.int .i64 sy0) := keepc hb' c10_o55_0
    clear c10_o55_0 ac10_o55_0
    have c11_o55_1 : w11.cell? ⟨w4.heap.size, 1, none⟩ = some (.int .i64 st0) := keepc hb' c10_o55_1
    clear c10_o55_1 ac10_o55_1
    have c11_o55_2 : w11.cell? ⟨w4.heap.size, 2, none⟩ = some (.slice (some ⟨g054, 0, none⟩) n0 n0) := keepc hb' c10_o55_2
    clear c10_o55_2 ac10_o55_2
    have c11_o61_0 : w11.cell? ⟨w5.heap.size, 0, none⟩ = some (.int .i64 st1) := keepc hb' c10_o61_0
    clear c10_o61_0 ac10_o61_0
    have c11_o61_1 : w11.cell? ⟨w5.heap.size, 1, none⟩ = some (.int .i64 hd1) := keepc hb' c10_o61_1
    clear c10_o61_1 ac10_o61_1
    have c11_o61_2 : w11.cell? ⟨w5.heap.size, 2, none⟩ = some (.int .i64 at1) := keepc hb' c10_o61_2
    clear c10_o61_2 ac10_o61_2
    have c11_o61_3 : w11.cell? ⟨w5.heap.size, 3, none⟩ = some (.slice (some ⟨g056, 0, none⟩) n1 n1) := keepc hb' c10_o61_3
    clear c10_o61_3 ac10_o61_3
    have c11_o61_4 : w11.cell? ⟨w5.heap.size, 4, none⟩ = some (.slice (some ⟨g158, 0, none⟩) m1 m1) := keepc hb' c10_o61_4
    clear c10_o61_4 ac10_o61_4
    have c11_o61_5 : w11.cell? ⟨w5.heap.size, 5, none⟩ = some (.slice (some ⟨g260, 0, none⟩) k1 k1) := keepc hb' c10_o61_5
    clear c10_o61_5 ac10_o61_5
    have c11_o75_0 : w11.cell? ⟨w6.heap.size, 0, none⟩ = some (.int .i64 RR.1.1) := keepc hb' c10_o75_0
    clear c10_o75_0 ac10_o75_0
    have c11_o75_1 : w11.cell? ⟨w6.heap.size, 1, none⟩ = some (.int .i64 RR.1.2.1) := keepc hb' c10_o75_1
    clear c10_o75_1 ac10_o75_1
    have c11_o75_2 : w11.cell? ⟨w6.heap.size, 2, none⟩ = some (.int .i64 RR.1.2.2.1) := keepc hb' c10_o75_2
    clear c10_o75_2 ac10_o75_2
    have c11_o75_3 : w11.cell? ⟨w6.heap.size, 3, none⟩ = some (.slice A62 n63 c64) := keepc hb' c10_o75_3
    clear c10_o75_3 ac10_o75_3
    have c11_o75_4 : w11.cell? ⟨w6.heap.size, 4, none⟩ = some (.slice B66 m67 d68) := keepc hb' c10_o75_4
    clear c10_o75_4 ac10_o75_4
    have c11_o75_5 : w11.cell? ⟨w6.heap.size, 5, none⟩ = some (.slice C70 k71 e72) := keepc hb' c10_o75_5
    clear c10_o75_5 ac10_o75_5
    have ac11_a0_0 := fun o => keepa o c11_a0_0
    have ac11_a0_1 := fun o => keepa o c11_a0_1
    have ac11_a0_2 := fun o => keepa o c11_a0_2
    have ac11_a1_0 := fun o => keepa o c11_a1_0
    have ac11_a1_1 := fun o => keepa o c11_a1_1
    have ac11_a1_2 := fun o => keepa o c11_a1_2
    have ac11_a1_3 := fun o => keepa o c11_a1_3
    have ac11_a1_4 := fun o => keepa o c11_a1_4
    have ac11_a1_5 := fun o => keepa o c11_a1_5
    have ac11_o53_0 := fun o => keepa o c11_o53_0
    have ac11_o53_1 := fun o => keepa o c11_o53_1
    have ac11_o53_2 := fun o => keepa o c11_o53_2
    have ac11_o53_3 := fun o => keepa o c11_o53_3
    have ac11_o53_4 := fun o => keepa o c11_o53_4
    have ac11_o53_5 := fun o => keepa o c11_o53_5
    have ac11_o55_0 := fun o => keepa o c11_o55_0
    have ac11_o55_1 := fun o => keepa o c11_o55_1
    have ac11_o55_2 := fun o => keepa o c11_o55_2
    have ac11_o61_0 := fun o => keepa o c11_o61_0
    have ac11_o61_1 := fun o => keepa o c11_o61_1
    have ac11_o61_2 := fun o => keepa o c11_o61_2
    have ac11_o61_3 := fun o => keepa o c11_o61_3
    have ac11_o61_4 := fun o => keepa o c11_o61_4
    have ac11_o61_5 := fun o => keepa o c11_o61_5
    have ac11_o75_0 := fun o => keepa o c11_o75_0
    have ac11_o75_1 := fun o => keepa o c11_o75_1
    have ac11_o75_2 := fun o => keepa o c11_o75_2
    have ac11_o75_3 := fun o => keepa o c11_o75_3
    have ac11_o75_4 := fun o => keepa o c11_o75_4
    have ac11_o75_5 := fun o => keepa o c11_o75_5
    have rP0 := P0.out.below hb'; clear P0; have P0 := Lib.hid rP0; clear rP0
    have rP1 := P1.out.below hb'; clear P1; have P1 := Lib.hid rP1; clear rP1
    have rFo53 := Fo53.out.below hb'; clear Fo53; have Fo53 := Lib.hid rFo53; clear rFo53
    have rFo55 := Fo55.out.below hb'; clear Fo55; have Fo55 := Lib.hid rFo55; clear rFo55
    have rFo61 := Fo61.out.below hb'; clear Fo61; have Fo61 := Lib.hid rFo61; clear rFo61
    have rFo75 := Fo75.out.below hb'; clear Fo75; have Fo75 := Lib.hid rFo75; clear rFo75
    have rFo83 := Fo83.out.below hb'; clear Fo83; have Fo83 := Lib.hid rFo83; clear rFo83
    have rB := below_chain B.out (by omega) hb'; clear B; have B := Lib.hid rB; clear rB
    have em11 : Below w9.heap.size w9 w11 := below_chain em10 (by omega) hb'
    clear hb hb'
    go_wp2_with fail
    refine hK _ _ ⟨⟨_, em11⟩, rfl⟩ ?_
    clear hK K
    repeat (first | (refine Mix.wpMix_read (by rfl) ?_; go_big_quiet_step (fail); refine wpQuiet_nil ?_) | (refine Mix.wpMix_pure (by rfl) ?_; go_big_quiet_step (fail); refine wpQuiet_nil ?_))
    (refine Mix.wpMix_nil ?_; try simp only [Exit.then])
    clear fx_c9_a0_0
    clear fx_c9_a0_1
    clear fx_c9_a0_2
    clear fx_c9_a1_0
    clear fx_c9_a1_1
    clear fx_c9_a1_2
    clear fx_c9_a1_3
    clear fx_c9_a1_4
    clear fx_c9_a1_5
    clear fx_c9_o53_0
    clear fx_c9_o53_1
    clear fx_c9_o53_2
    clear fx_c9_o53_3
    clear fx_c9_o53_4
    clear fx_c9_o53_5
    clear fx_c9_o55_0
    clear fx_c9_o55_1
    clear fx_c9_o55_2
    clear fx_c9_o61_0
    clear fx_c9_o61_1
    clear fx_c9_o61_2
    clear fx_c9_o61_3
    clear fx_c9_o61_4
    clear fx_c9_o61_5
    clear fx_c9_o75_0
    clear fx_c9_o75_1
    clear fx_c9_o75_2
    clear fx_c9_o75_3
    clear fx_c9_o75_4
    clear fx_c9_o75_5
    clear Fo83
    go_wp2_with fail
    refine (markMachine_c _ _ _ _ _ _ _ _ _ _ (by exact (Fo55.out)) (by omega) (by omega) (by omega)).mono ?_
    rintro e w12 ⟨rfl, q12, hk⟩
    have hk' : KeepR w3.heap.size w4.heap.size w11 w12 := (by first | (with_reducible exact hk) | (with_reducible exact hk.up1) | (with_reducible exact hk.up1.up1))
    have z12 := hk'.size
    have c12_a0_0 : w12.cell? ⟨w.heap.size, 0, none⟩ = some (.int .i64 sy0) := hk'.cell (by simp <;> omega) c11_a0_0
    clear c11_a0_0 ac11_a0_0
    have c12_a0_1 : w12.cell? ⟨w.heap.size, 1, none⟩ = some (.int .i64 st0) := hk'.cell (by simp <;> omega) c11_a0_1
    clear c11_a0_1 ac11_a0_1
    have c12_a0_2 : w12.cell? ⟨w.heap.size, 2, none⟩ = some (.slice A0 n0 c0) := hk'.cell (by simp <;> omega) c11_a0_2
    clear c11_a0_2 ac11_a0_2
    have c12_a1_0 : w12.cell? ⟨(w.heap.size + 1), 0, none⟩ = some (.int .i64 st1) := hk'.cell (by simp <;> omega) c11_a1_0
    clear c11_a1_0 ac11_a1_0
    have c12_a1_1 : w12.cell? ⟨(w.heap.size + 1), 1, none⟩ = some (.int .i64 hd1) := hk'.cell (by simp <;> omega) c11_a1_1
    clear c11_a1_1 ac11_a1_1
    have c12_a1_2 : w12.cell? ⟨(w.heap.size + 1), 2, none⟩ = some (.int .i64 at1) := hk'.cell (by simp <;> omega) c11_a1_2
    clear c11_a1_2 ac11_a1_2
    have c12_a1_3 : w12.cell? ⟨(w.heap.size + 1), 3, none⟩ = some (.slice A1 n1 c1) := hk'.cell (by simp <;> omega) c11_a1_3
    clear c11_a1_3 ac11_a1_3
    have c12_a1_4 : w12.cell? ⟨(w.heap.size + 1), 4, none⟩ = some (.slice B1 m1 d1) := hk'.cell (by simp <;> omega) c11_a1_4
    clear c11_a1_4 ac11_a1_4
    have c12_a1_5 : w12.cell? ⟨(w.heap.size + 1), 5, none⟩ = some (.slice C1 k1 e1) := hk'.cell (by simp <;> omega) c11_a1_5
    clear c11_a1_5 ac11_a1_5
    have c12_o53_0 : w12.cell? ⟨g22, 0, none⟩ = some (.int .i64 RR.1.1) := hk'.cell (by simp <;> omega) c11_o53_0
    clear c11_o53_0 ac11_o53_0
    have c12_o53_1 : w12.cell? ⟨g22, 1, none⟩ = some (.int .i64 RR.1.2.1) := hk'.cell (by simp <;> omega) c11_o53_1
    clear c11_o53_1 ac11_o53_1
    have c12_o53_2 : w12.cell? ⟨g22, 2, none⟩ = some (.int .i64 RR.1.2.2.1) := hk'.cell (by simp <;> omega) c11_o53_2
    clear c11_o53_2 ac11_o53_2
    have c12_o53_3 : w12.cell? ⟨g22, 3, none⟩ = some (.slice A11 n12 c13) := hk'.cell (by simp <;> omega) c11_o53_3
    clear c11_o53_3 ac11_o53_3
    have c12_o53_4 : w12.cell? ⟨g22, 4, none⟩ = some (.slice B15 m16 d17) := hk'.cell (by simp <;> omega) c11_o53_4
    clear c11_o53_4 ac11_o53_4
    have c12_o53_5 : w12.cell? ⟨g22, 5, none⟩ = some (.slice C19 k20 e21) := hk'.cell (by simp <;> omega) c11_o53_5
    clear c11_o53_5 ac11_o53_5
    have c12_o55_0 : w12.cell? ⟨w4.heap.size, 0, none⟩ = some (.int .i64 sy0) := hk'.cell (by simp <;> omega) c11_o55_0
    clear c11_o55_0 ac11_o55_0
    have c12_o55_1 : w12.cell? ⟨w4.heap.size, 1, none⟩ = some (.int .i64 st0) := hk'.cell (by simp <;> omega) c11_o55_1
    clear c11_o55_1 ac11_o55_1
    have c12_o55_2 : w12.cell? ⟨w4.heap.size, 2, none⟩ = some (.slice (some ⟨g054, 0, none⟩) n0 n0) := hk'.cell (by simp <;> omega) c11_o55_2
    clear c11_o55_2 ac11_o55_2
    have c12_o61_0 : w12.cell? ⟨w5.heap.size, 0, none⟩ = some (.int .i64 st1) := hk'.cell (by simp <;> omega) c11_o61_0
    clear c11_o61_0 ac11_o61_0
    have c12_o61_1 : w12.cell? ⟨w5.heap.size, 1, none⟩ = some (.int .i64 hd1) := hk'.cell (by simp <;> omega) c11_o61_1
    clear c11_o61_1 ac11_o61_1
    have c12_o61_2 : w12.cell? ⟨w5.heap.size, 2, none⟩ = some (.int .i64 at1) := hk'.cell (by simp <;> omega) c11_o61_2
    clear c11_o61_2 ac11_o61_2
    have c12_o61_3 : w12.cell? ⟨w5.heap.size, 3, none⟩ = some (.slice (some ⟨g056, 0, none⟩) n1 n1) := hk'.cell (by simp <;> omega) c11_o61_3
    clear c11_o61_3 ac11_o61_3
    have c12_o61_4 : w12.cell? ⟨w5.heap.size, 4, none⟩ = some (.slice (some ⟨g158, 0, none⟩) m1 m1) := hk'.cell (by simp <;> omega) c11_o61_4
    clear c11_o61_4 ac11_o61_4
    have c12_o61_5 : w12.cell? ⟨w5.heap.size, 5, none⟩ = some (.slice (some ⟨g260, 0, none⟩) k1 k1) := hk'.cell (by simp <;> omega) c11_o61_5
    clear c11_o61_5 ac11_o61_5
    have c12_o75_0 : w12.cell? ⟨w6.heap.size, 0, none⟩ = some (.int .i64 RR.1.1) := hk'.cell (by simp <;> omega) c11_o75_0
    clear c11_o75_0 ac11_o75_0
    have c12_o75_1 : w12.cell? ⟨w6.heap.size, 1, none⟩ = some (.int .i64 RR.1.2.1) := hk'.cell (by simp <;> omega) c11_o75_1
    clear c11_o75_1 ac11_o75_1
    have c12_o75_2 : w12.cell? ⟨w6.heap.size, 2, none⟩ = some (.int .i64 RR.1.2.2.1) := hk'.cell (by simp <;> omega) c11_o75_2
    clear c11_o75_2 ac11_o75_2
    have c12_o75_3 : w12.cell? ⟨w6.heap.size, 3, none⟩ = some (.slice A62 n63 c64) := hk'.cell (by simp <;> omega) c11_o75_3
    clear c11_o75_3 ac11_o75_3
    have c12_o75_4 : w12.cell? ⟨w6.heap.size, 4, none⟩ = some (.slice B66 m67 d68) := hk'.cell (by simp <;> omega) c11_o75_4
    clear c11_o75_4 ac11_o75_4
    have c12_o75_5 : w12.cell? ⟨w6.heap.size, 5, none⟩ = some (.slice C70 k71 e72) := hk'.cell (by simp <;> omega) c11_o75_5
    clear c11_o75_5 ac11_o75_5
    have ac12_a0_0 := fun o => keepa o c12_a0_0
    have ac12_a0_1 := fun o => keepa o c12_a0_1
    have ac12_a0_2 := fun o => keepa o c12_a0_2
    have ac12_a1_0 := fun o => keepa o c12_a1_0
    have ac12_a1_1 := fun o => keepa o c12_a1_1
    have ac12_a1_2 := fun o => keepa o c12_a1_2
    have ac12_a1_3 := fun o => keepa o c12_a1_3
    have ac12_a1_4 := fun o => keepa o c12_a1_4
    have ac12_a1_5 := fun o => keepa o c12_a1_5
    have ac12_o53_0 := fun o => keepa o c12_o53_0
    have ac12_o53_1 := fun o => keepa o c12_o53_1
    have ac12_o53_2 := fun o => keepa o c12_o53_2
    have ac12_o53_3 := fun o => keepa o c12_o53_3
    have ac12_o53_4 := fun o => keepa o c12_o53_4
    have ac12_o53_5 := fun o => keepa o c12_o53_5
    have ac12_o55_0 := fun o => keepa o c12_o55_0
    have ac12_o55_1 := fun o => keepa o c12_o55_1
    have ac12_o55_2 := fun o => keepa o c12_o55_2
    have ac12_o61_0 := fun o => keepa o c12_o61_0
    have ac12_o61_1 := fun o => keepa o c12_o61_1
    have ac12_o61_2 := fun o => keepa o c12_o61_2
    have ac12_o61_3 := fun o => keepa o c12_o61_3
    have ac12_o61_4 := fun o => keepa o c12_o61_4
    have ac12_o61_5 := fun o => keepa o c12_o61_5
    have ac12_o75_0 := fun o => keepa o c12_o75_0
    have ac12_o75_1 := fun o => keepa o c12_o75_1
    have ac12_o75_2 := fun o => keepa o c12_o75_2
    have ac12_o75_3 := fun o => keepa o c12_o75_3
    have ac12_o75_4 := fun o => keepa o c12_o75_4
    have ac12_o75_5 := fun o => keepa o c12_o75_5
    have rP0 := P0.out.keep hk' (by omega); clear P0; have P0 := Lib.hid rP0; clear rP0
    have rP1 := P1.out.keep hk' (by omega); clear P1; have P1 := Lib.hid rP1; clear rP1
    have rFo53 := Fo53.out.keep hk' (by omega); clear Fo53; have Fo53 := Lib.hid rFo53; clear rFo53
    have rFo55 := q12; clear Fo55; have Fo55 := Lib.hid rFo55; clear rFo55 q12
    have rFo61 := Fo61.out.keep hk' (by omega); clear Fo61; have Fo61 := Lib.hid rFo61; clear rFo61
    have rFo75 := Fo75.out.keep hk' (by omega); clear Fo75; have Fo75 := Lib.hid rFo75; clear rFo75
    have rB := B.out.trans (hk'.below (B := w.heap.size) (by omega) (by omega)); clear B; have B := Lib.hid rB; clear rB
    clear hk hk'
    go_wp2_with fail
    refine (markFormula_c _ _ _ _ _ _ _ _ _ _ _ _ _ _ _ _ _ _ _ (by exact (Fo61.out)) (by omega) (by omega) (by omega) hI0_o61 (by omega) hI1_o61 (by omega) (by first | omega | (simp; omega)) (by omega) (by omega)).mono ?_
    rintro e w13 ⟨rfl, q13, hk⟩
    have hk' : KeepR (w4.heap.size + 1) w5.heap.size w12 w13 := (by first | (with_reducible exact hk) | (with_reducible exact hk.up1) | (with_reducible exact hk.up1.up1))
    have z13 := hk'.size
    have c13_a0_0 : w13.cell? ⟨w.heap.size, 0, none⟩ = some (.int .i64 sy0) := hk'.cell (by simp <;> omega) c12_a0_0
    clear c12_a0_0 ac12_a0_0
    have c13_a0_1 : w13.cell? ⟨w.heap.size, 1, none⟩ = some (.int .i64 st0) := hk'.cell (by simp <;> omega) c12_a0_1
    clear c12_a0_1 ac12_a0_1
    have c13_a0_2 : w13.cell? ⟨w.heap.size, 2, none⟩ = some (.slice A0 n0 c0) := hk'.cell (by simp <;> omega) c12_a0_2
    clear c12_a0_2 ac12_a0_2
    have c13_a1_0 : w13.cell? ⟨(w.heap.size + 1), 0, none⟩ = some (.int .i64 st1) := hk'.cell (by simp <;> omega) c12_a1_0
    clear c12_a1_0 ac12_a1_0
    have c13_a1_1 : w13.cell? ⟨(w.heap.size + 1), 1, none⟩ = some (.int .i64 hd1) := hk'.cell (by simp <;> omega) c12_a1_1
    clear c12_a1_1 ac12_a1_1
    have c13_a1_2 : w13.cell? ⟨(w.heap.size + 1), 2, none⟩ = some (.int .i64 at1) := hk'.cell (by simp <;> omega) c12_a1_2
    clear c12_a1_2 ac12_a1_2
    have c13_a1_3 : w13.cell? ⟨(w.heap.size + 1), 3, none⟩ = some (.slice A1 n1 c1) := hk'.cell (by simp <;> omega) c12_a1_3
    clear c12_a1_3 ac12_a1_3
    have c13_a1_4 : w13.cell? ⟨(w.heap.size + 1), 4, none⟩ = some (.slice B1 m1 d1) := hk'.cell (by simp <;> omega) c12_a1_4
    clear c12_a1_4 ac12_a1_4
    have c13_a1_5 : w13.cell? ⟨(w.heap.size + 1), 5, none⟩ = some (.slice C1 k1 e1) := hk'.cell (by simp <;> omega) c12_a1_5
    clear c12_a1_5 ac12_a1_5
    have c13_o53_0 : w13.cell? ⟨g22, 0, none⟩ = some (.int .i64 RR.1.1) := hk'.cell (by simp <;> omega) c12_o53_0
    clear c12_o53_0 ac12_o53_0
    have c13_o53_1 : w13.cell? ⟨g22, 1, none⟩ = some (.int .i64 RR.1.2.1) := hk'.cell (by simp <;> omega) c12_o53_1
    clear c12_o53_1 ac12_o53_1
    have c13_o53_2 : w13.cell? ⟨g22, 2, none⟩ = some (.int .i64 RR.1.2.2.1) := hk'.cell (by simp <;> omega) c12_o53_2
    clear c12_o53_2 ac12_o53_2
    have c13_o53_3 : w13.cell? ⟨g22, 3, none⟩ = some (.slice A11 n12 c13) := hk'.cell (by simp <;> omega) c12_o53_3
    clear c12_o53_3 ac12_o53_3
    have c13_o53_4 : w13.cell? ⟨g22, 4, none⟩ = some (.slice B15 m16 d17) := hk'.cell (by simp <;> omega) c12_o53_4
    clear c12_o53_4 ac12_o53_4
    have c13_o53_5 : w13.cell? ⟨g22, 5, none⟩ = some (.slice C19 k20 e21) := hk'.cell (by simp <;> omega) c12_o53_5
    clear c12_o53_5 ac12_o53_5
    have c13_o55_0 : w13.cell? ⟨w4.heap.size, 0, none⟩ = some (.int .i64 sy0) := hk'.cell (by simp <;> omega) c12_o55_0
    clear c12_o55_0 ac12_o55_0
    have c13_o55_1 : w13.cell? ⟨w4.heap.size, 1, none⟩ = some (.int .i64 st0) := hk'.cell (by simp <;> omega) c12_o55_1
    clear c12_o55_1 ac12_o55_1
    have c13_o55_2 : w13.cell? ⟨w4.heap.size, 2, none⟩ = some (.slice (some ⟨g054, 0, none⟩) n0 n0) := hk'.cell (by simp <;> omega) c12_o55_2
    clear c12_o55_2 ac12_o55_2
    have c13_o61_0 : w13.cell? ⟨w5.heap.size, 0, none⟩ = some (.int .i64 st1) := hk'.cell (by simp <;> omega) c12_o61_0
    clear c12_o61_0 ac12_o61_0
    have c13_o61_1 : w13.cell? ⟨w5.heap.size, 1, none⟩ = some (.int .i64 hd1) := hk'.cell (by simp <;> omega) c12_o61_1
    clear c12_o61_1 ac12_o61_1
    have c13_o61_2 : w13.cell? ⟨w5.heap.size, 2, none⟩ = some (.int .i64 at1) := hk'.cell (by simp <;> omega) c12_o61_2
    clear c12_o61_2 ac12_o61_2
    have c13_o61_3 : w13.cell? ⟨w5.heap.size, 3, none⟩ = some (.slice (some ⟨g056, 0, none⟩) n1 n1) := hk'.cell (by simp <;> omega) c12_o61_3
    clear c12_o61_3 ac12_o61_3
    have c13_o61_4 : w13.cell? ⟨w5.heap.size, 4, none⟩ = some (.slice (some ⟨g158, 0, none⟩) m1 m1) := hk'.cell (by simp <;> omega) c12_o61_4
    clear c12_o61_4 ac12_o61_4
    have c13_o61_5 : w13.cell? ⟨w5.heap.size, 5, none⟩ = some (.slice (some ⟨g260, 0, none⟩) k1 k1) := hk'.cell (by simp <;> omega) c12_o61_5
    clear c12_o61_5 ac12_o61_5
    have c13_o75_0 : w13.cell? ⟨w6.heap.size, 0, none⟩ = some (.int .i64 RR.1.1) := hk'.cell (by simp <;> omega) c12_o75_0
    clear c12_o75_0 ac12_o75_0
    have c13_o75_1 : w13.cell? ⟨w6.heap.size, 1, none⟩ = some (.int .i64 RR.1.2.1) := hk'.cell (by simp <;> omega) c12_o75_1
    clear c12_o75_1 ac12_o75_1
    have c13_o75_2 : w13.cell? ⟨w6.heap.size, 2, none⟩ = some (.int .i64 RR.1.2.2.1) := hk'.cell (by simp <;> omega) c12_o75_2
    clear c12_o75_2 ac12_o75_2
    have c13_o75_3 : w13.cell? ⟨w6.heap.size, 3, none⟩ = some (.slice A62 n63 c64) := hk'.cell (by simp <;> omega) c12_o75_3
    clear c12_o75_3 ac12_o75_3
    have c13_o75_4 : w13.cell? ⟨w6.heap.size, 4, none⟩ = some (.slice B66 m67 d68) := hk'.cell (by simp <;> omega) c12_o75_4
    clear c12_o75_4 ac12_o75_4
    have c13_o75_5 : w13.cell? ⟨w6.heap.size, 5, none⟩ = some (.slice C70 k71 e72) := hk'.cell (by simp <;> omega) c12_o75_5
    clear c12_o75_5 ac12_o75_5
    have ac13_a0_0 := fun o => keepa o c13_a0_0
    have ac13_a0_1 := fun o => keepa o c13_a0_1
    have ac13_a0_2 := fun o => keepa o c13_a0_2
    have ac13_a1_0 := fun o => keepa o c13_a1_0
    have ac13_a1_1 := fun o => keepa o c13_a1_1
    have ac13_a1_2 := fun o => keepa o c13_a1_2
    have ac13_a1_3 := fun o => keepa o c13_a1_3
    have ac13_a1_4 := fun o => keepa o c13_a1_4
    have ac13_a1_5 := fun o => keepa o c13_a1_5
    have ac13_o53_0 := fun o => keepa o c13_o53_0
    have ac13_o53_1 := fun o => keepa o c13_o53_1
    have ac13_o53_2 := fun o => keepa o c13_o53_2
    have ac13_o53_3 := fun o => keepa o c13_o53_3
    have ac13_o53_4 := fun o => keepa o c13_o53_4
    have ac13_o53_5 := fun o => keepa o c13_o53_5
    have ac13_o55_0 := fun o => keepa o c13_o55_0
    have ac13_o55_1 := fun o => keepa o c13_o55_1
    have ac13_o55_2 := fun o => keepa o c13_o55_2
    have ac13_o61_0 := fun o => keepa o c13_o61_0
    have ac13_o61_1 := fun o => keepa o c13_o61_1
    have ac13_o61_2 := fun o => keepa o c13_o61_2
    have ac13_o61_3 := fun o => keepa o c13_o61_3
    have ac13_o61_4 := fun o => keepa o c13_o61_4
    have ac13_o61_5 := fun o => keepa o c13_o61_5
    have ac13_o75_0 := fun o => keepa o c13_o75_0
    have ac13_o75_1 := fun o => keepa o c13_o75_1
    have ac13_o75_2 := fun o => keepa o c13_o75_2
    have ac13_o75_3 := fun o => keepa o c13_o75_3
    have ac13_o75_4 := fun o => keepa o c13_o75_4
    have ac13_o75_5 := fun o => keepa o c13_o75_5
    have rP0 := P0.out.keep hk' (by omega); clear P0; have P0 := Lib.hid rP0; clear rP0
    have rP1 := P1.out.keep hk' (by omega); clear P1; have P1 := Lib.hid rP1; clear rP1
    have rFo53 := Fo53.out.keep hk' (by omega); clear Fo53; have Fo53 := Lib.hid rFo53; clear rFo53
    have rFo55 := Fo55.out.keep hk' (by omega); clear Fo55; have Fo55 := Lib.hid rFo55; clear rFo55
    have rFo61 := q13; clear Fo61; have Fo61 := Lib.hid rFo61; clear rFo61 q13
    have rFo75 := Fo75.out.keep hk' (by omega); clear Fo75; have Fo75 := Lib.hid rFo75; clear rFo75
    have rB := B.out.trans (hk'.below (B := w.heap.size) (by omega) (by omega)); clear B; have B := Lib.hid rB; clear rB
    clear hk hk'
    go_wp2_with fail
    refine (eqFormula_t _ _ _ _ _ _ _ _ _ _ _ _ _ _ _ _ _ _ _ _ _ _ _ _ _ _ _ (by exact (Fo75.out.rd)) (by exact (Fo53.out.rd)) (by omega) (by omega) (by omega) hI0_o75 (hm0_o75.out.trans hm0_o53.out.symm) hI1_o75 (hm1_o75.out.trans hm1_o53.out.symm)).mono ?_
    rintro e w14 ⟨rfl, hb⟩
    have hb' : Below w13.heap.size w13 w14 := (by first | (with_reducible exact hb) | (with_reducible exact up1 hb) | (with_reducible exact up2 hb) | (with_reducible exact up3 hb) | (with_reducible exact up4 hb) | (with_reducible exact below_of_drew hb) | (with_reducible exact below_of_drew (up1 hb)))
    have z14 := hb'.size
    have c14_a0_0 : w14.cell? ⟨w.heap.size, 0, none⟩ = some (.int .i64 sy0) := keepc hb' c13_a0_0
    clear c13_a0_0 ac13_a0_0
    have c14_a0_1 : w14.cell? ⟨w.heap.size, 1, none⟩ = some (.int .i64 st0) := keepc hb' c13_a0_1
    clear c13_a0_1 ac13_a0_1
    have c14_a0_2 : w14.cell? ⟨w.heap.size, 2, none⟩ = some (.slice A0 n0 c0) := keepc hb' c13_a0_2
    clear c13_a0_2 ac13_a0_2
    have c14_a1_0 : w14.cell? ⟨(w.heap.size + 1), 0, none⟩ = some (.int .i64 st1) := keepc hb' c13_a1_0
    clear c13_a1_0 ac13_a1_0
    have c14_a1_1 : w14.cell? ⟨(w.heap.size + 1), 1, none⟩ = some (.int .i64 hd1) := keepc hb' c13_a1_1
    clear c13_a1_1 ac13_a1_1
    have c14_a1_2 : w14.cell? ⟨(w.heap.size + 1), 2, none⟩ = some (.int .i64 at1) := keepc hb' c13_a1_2
    clear c13_a1_2 ac13_a1_2
    have c14_a1_3 : w14.cell? ⟨(w.heap.size + 1), 3, none⟩ = some (.slice A1 n1 c1) := keepc hb' c13_a1_3
    clear c13_a1_3 ac13_a1_3
    have c14_a1_4 : w14.cell? ⟨(w.heap.size + 1), 4, none⟩ = some (.slice B1 m1 d1) := keepc hb' c13_a1_4
    clear c13_a1_4 ac13_a1_4
    have c14_a1_5 : w14.cell? ⟨(w.heap.size + 1), 5, none⟩ = some (.slice C1 k1 e1) := keepc hb' c13_a1_5
    clear c13_a1_5 ac13_a1_5
    have c14_o53_0 : w14.cell? ⟨g22, 0, none⟩ = some (.int .i64 RR.1.1) := keepc hb' c13_o53_0
    clear c13_o53_0 ac13_o53_0
    have c14_o53_1 : w14.cell? ⟨g22, 1, none⟩ = some (.int .i64 RR.1.2.1) := keepc hb' c13_o53_1
    clear c13_o53_1 ac13_o53_1
    have c14_o53_2 : w14.cell? ⟨g22, 2, none⟩ = some (.int .i64 RR.1.2.2.1) := keepc hb' c13_o53_2
    clear c13_o53_2 ac13_o53_2
    have c14_o53_3 : w14.cell? ⟨g22, 3, none⟩ = some (.slice A11 n12 c13) := keepc hb' c13_o53_3
    clear c13_o53_3 ac13_o53_3
    have c14_o53_4 : w14.cell? ⟨g22, 4, none⟩ = some (.slice B15 m16 d17) := keepc hb' c13_o53_4
    clear c13_o53_4 ac13_o53_4
    have c14_o53_5 : w14.cell? ⟨g22, 5, none⟩ = some (.slice C19 k20 e21) := keepc hb' c13_o53_5
    clear c13_o53_5 ac13_o53_5
    have c14_o55_0 : w14.cell? ⟨w4.heap.size, 0, none⟩ = some (.int .i64 sy0) := keepc hb' c13_o55_0
    clear c13_o55_0 ac13_o55_0
    have c14_o55_1 : w14.cell? ⟨w4.heap.size, 1, none⟩ = some (.int .i64 st0) := keepc hb' c13_o55_1
    clear c13_o55_1 ac13_o55_1
    have c14_o55_2 : w14.cell? ⟨w4.heap.size, 2, none⟩ = some (.slice (some ⟨g054, 0, none⟩) n0 n0) := keepc hb' c13_o55_2
    clear c13_o55_2 ac13_o55_2
    have c14_o61_0 : w14.cell? ⟨w5.heap.size, 0, none⟩ = some (.int .i64 st1) := keepc hb' c13_o61_0
    clear c13_o61_0 ac13_o61_0
    have c14_o61_1 : w14.cell? ⟨w5.heap.size, 1, none⟩ = some (.int .i64 hd1) := keepc hb' c13_o61_1
    clear c13_o61_1 ac13_o61_1
    have c14_o61_2 : w14.cell? ⟨w5.heap.size, 2, none⟩ = some (.int .i64 at1) := keepc hb' c13_o61_2
    clear c13_o61_2 ac13_o61_2
    have c14_o61_3 : w14.cell? ⟨w5.heap.size, 3, none⟩ = some (.slice (some ⟨g056, 0, none⟩) n1 n1) := keepc hb' c13_o61_3
    clear c13_o61_3 ac13_o61_3
    have c14_o61_4 : w14.cell? ⟨w5.heap.size, 4, none⟩ = some (.slice (some ⟨g158, 0, none⟩) m1 m1) := keepc hb' c13_o61_4
    clear c13_o61_4 ac13_o61_4
    have c14_o61_5 : w14.cell? ⟨w5.heap.size, 5, none⟩ = some (.slice (some ⟨g260, 0, none⟩) k1 k1) := keepc hb' c13_o61_5
    clear c13_o61_5 ac13_o61_5
    have c14_o75_0 : w14.cell? ⟨w6.heap.size, 0, none⟩ = some (.int .i64 RR.1.1) := keepc hb' c13_o75_0
    clear c13_o75_0 ac13_o75_0
    have c14_o75_1 : w14.cell? ⟨w6.heap.size, 1, none⟩ = some (.int .i64 RR.1.2.1) := keepc hb' c13_o75_1
    clear c13_o75_1 ac13_o75_1
    have c14_o75_2 : w14.cell? ⟨w6.heap.size, 2, none⟩ = some (.int .i64 RR.1.2.2.1) := keepc hb' c13_o75_2
    clear c13_o75_2 ac13_o75_2
    have c14_o75_3 : w14.cell? ⟨w6.heap.size, 3, none⟩ = some (.slice A62 n63 c64) := keepc hb' c13_o75_3
    clear c13_o75_3 ac13_o75_3
    have c14_o75_4 : w14.cell? ⟨w6.heap.size, 4, none⟩ = some (.slice B66 m67 d68) := keepc hb' c13_o75_4
    clear c13_o75_4 ac13_o75_4
    have c14_o75_5 : w14.cell? ⟨w6.heap.size, 5, none⟩ = some (.slice C70 k71 e72) := keepc hb' c13_o75_5
    clear c13_o75_5 ac13_o75_5
    have ac14_a0_0 := fun o => keepa o c14_a0_0
    have ac14_a0_1 := fun o => keepa o c14_a0_1
    have ac14_a0_2 := fun o => keepa o c14_a0_2
    have ac14_a1_0 := fun o => keepa o c14_a1_0
    have ac14_a1_1 := fun o => keepa o c14_a1_1
    have ac14_a1_2 := fun o => keepa o c14_a1_2
    have ac14_a1_3 := fun o => keepa o c14_a1_3
    have ac14_a1_4 := fun o => keepa o c14_a1_4
    have ac14_a1_5 := fun o => keepa o c14_a1_5
    have ac14_o53_0 := fun o => keepa o c14_o53_0
    have ac14_o53_1 := fun o => keepa o c14_o53_1
    have ac14_o53_2 := fun o => keepa o c14_o53_2
    have ac14_o53_3 := fun o => keepa o c14_o53_3
    have ac14_o53_4 := fun o => keepa o c14_o53_4
    have ac14_o53_5 := fun o => keepa o c14_o53_5
    have ac14_o55_0 := fun o => keepa o c14_o55_0
    have ac14_o55_1 := fun o => keepa o c14_o55_1
    have ac14_o55_2 := fun o => keepa o c14_o55_2
    have ac14_o61_0 := fun o => keepa o c14_o61_0
    have ac14_o61_1 := fun o => keepa o c14_o61_1
    have ac14_o61_2 := fun o => keepa o c14_o61_2
    have ac14_o61_3 := fun o => keepa o c14_o61_3
    have ac14_o61_4 := fun o => keepa o c14_o61_4
    have ac14_o61_5 := fun o => keepa o c14_o61_5
    have ac14_o75_0 := fun o => keepa o c14_o75_0
    have ac14_o75_1 := fun o => keepa o c14_o75_1
    have ac14_o75_2 := fun o => keepa o c14_o75_2
    have ac14_o75_3 := fun o => keepa o c14_o75_3
    have ac14_o75_4 := fun o => keepa o c14_o75_4
    have ac14_o75_5 := fun o => keepa o c14_o75_5
    have rP0 := P0.out.below hb'; clear P0; have P0 := Lib.hid rP0; clear rP0
    have rP1 := P1.out.below hb'; clear P1; have P1 := Lib.hid rP1; clear rP1
    have rFo53 := Fo53.out.below hb'; clear Fo53; have Fo53 := Lib.hid rFo53; clear rFo53
    have rFo55 := Fo55.out.below hb'; clear Fo55; have Fo55 := Lib.hid rFo55; clear rFo55
    have rFo61 := Fo61.out.below hb'; clear Fo61; have Fo61 := Lib.hid rFo61; clear rFo61
    have rFo75 := Fo75.out.below hb'; clear Fo75; have Fo75 := Lib.hid rFo75; clear rFo75
    have rB := below_chain B.out (by omega) hb'; clear B; have B := Lib.hid rB; clear rB
    clear hb hb'
    go_wp2_with fail
    refine (markFormula_c _ _ _ _ _ _ _ _ _ _ _ _ _ _ _ _ _ _ _ (by exact (Fo75.out)) (by omega) (by omega) (by omega) hI0_o75 (by omega) hI1_o75 (by omega) (by first | omega | (simp; omega)) (by omega) (by omega)).mono ?_
    rintro e w15 ⟨rfl, q15, hk⟩
    have hk' : KeepR (w5.heap.size + 1) w6.heap.size w14 w15 := (by first | (with_reducible exact hk) | (with_reducible exact hk.up1) | (with_reducible exact hk.up1.up1))
    have z15 := hk'.size
    have c15_a0_0 : w15.cell? ⟨w.heap.size, 0, none⟩ = some (.int .i64 sy0) := hk'.cell (by simp <;> omega) c14_a0_0
    clear c14_a0_0 ac14_a0_0
    have c15_a0_1 : w15.cell? ⟨w.heap.size, 1, none⟩ = some (.int .i64 st0) := hk'.cell (by simp <;> omega) c14_a0_1
    clear c14_a0_1 ac14_a0_1
    have c15_a0_2 : w15.cell? ⟨w.heap.size, 2, none⟩ = some (.slice A0 n0 c0) := hk'.cell (by simp <;> omega) c14_a0_2
    clear c14_a0_2 ac14_a0_2
    have c15_a1_0 : w15.cell? ⟨(w.heap.size + 1), 0, none⟩ = some (.int .i64 st1) := hk'.cell (by simp <;> omega) c14_a1_0
    clear c14_a1_0 ac14_a1_0
    have c15_a1_1 : w15.cell? ⟨(w.heap.size + 1), 1, none⟩ = some (.int .i64 hd1) := hk'.cell (by simp <;> omega) c14_a1_1
    clear c14_a1_1 ac14_a1_1
    have c15_a1_2 : w15.cell? ⟨(w.heap.size + 1), 2, none⟩ = some (.int .i64 at1) := hk'.cell (by simp <;> omega) c14_a1_2
    clear c14_a1_2 ac14_a1_2
    have c15_a1_3 : w15.cell? ⟨(w.heap.size + 1), 3, none⟩ = some (.slice A1 n1 c1) := hk'.cell (by simp <;> omega) c14_a1_3
    clear c14_a1_3 ac14_a1_3
    have c15_a1_4 : w15.cell? ⟨(w.heap.size + 1), 4, none⟩ = some (.slice B1 m1 d1) := hk'.cell (by simp <;> omega) c14_a1_4
    clear c14_a1_4 ac14_a1_4
    have c15_a1_5 : w15.cell? ⟨(w.heap.size + 1), 5, none⟩ = some (.slice C1 k1 e1) := hk'.cell (by simp <;> omega) c14_a1_5
    clear c14_a1_5 ac14_a1_5
    have c15_o53_0 : w15.cell? ⟨g22, 0, none⟩ = some (.int .i64 RR.1.1) := hk'.cell (by simp <;> omega) c14_o53_0
    clear c14_o53_0 ac14_o53_0
    have c15_o53_1 : w15.cell? ⟨g22, 1, none⟩ = some (.int .i64 RR.1.2.1) := hk'.cell (by simp <;> omega) c14_o53_1
    clear c14_o53_1 ac14_o53_1
    have c15_o53_2 : w15.cell? ⟨g22, 2, none⟩ = some (.int .i64 RR.1.2.2.1) := hk'.cell (by simp <;> omega) c14_o53_2
    clear c14_o53_2 ac14_o53_2
    have c15_o53_3 : w15.cell? ⟨g22, 3, none⟩ = some (.slice A11 n12 c13) := hk'.cell (by simp <;> omega) c14_o53_3
    clear c14_o53_3 ac14_o53_3
    have c15_o53_4 : w15.cell? ⟨g22, 4, none⟩ = some (.slice B15 m16 d17) := hk'.cell (by simp <;> omega) c14_o53_4
    clear c14_o53_4 ac14_o53_4
    have c15_o53_5 : w15.cell? ⟨g22, 5, none⟩ = some (.slice C19 k20 e21) := hk'.cell (by simp <;> omega) c14_o53_5
    clear c14_o53_5 ac14_o53_5
    have c15_o55_0 : w15.cell? ⟨w4.heap.size, 0, none⟩ = some (.int .i64 sy0) := hk'.cell (by simp <;> omega) c14_o55_0
    clear c14_o55_0 ac14_o55_0
    have c15_o55_1 : w15.cell? ⟨w4.heap.size, 1, none⟩ = some (.int .i64 st0) := hk'.cell (by simp <;> omega) c14_o55_1
    clear c14_o55_1 ac14_o55_1
    have c15_o55_2 : w15.cell? ⟨w4.heap.size, 2, none⟩ = some (.slice (some ⟨g054, 0, none⟩) n0 n0) := hk'.cell (by simp <;> omega) c14_o55_2
    clear c14_o55_2 ac14_o55_2
    have c15_o61_0 : w15.cell? ⟨w5.heap.size, 0, none⟩ = some (.int .i64 st1) := hk'.cell (by simp <;> omega) c14_o61_0
    clear c14_o61_0 ac14_o61_0
    have c15_o61_1 : w15.cell? ⟨w5.heap.size, 1, none⟩ = some (.int .i64 hd1) := hk'.cell (by simp <;> omega) c14_o61_1
    clear c14_o61_1 ac14_o61_1
    have c15_o61_2 : w15.cell? ⟨w5.heap.size, 2, none⟩ = some (.int .i64 at1) := hk'.cell (by simp <;> omega) c14_o61_2
    clear c14_o61_2 ac14_o61_2
    have c15_o61_3 : w15.cell? ⟨w5.heap.size, 3, none⟩ = some (.slice (some ⟨g056, 0, none⟩) n1 n1) := hk'.cell (by simp <;> omega) c14_o61_3
    clear c14_o61_3 ac14_o61_3
    have c15_o61_4 : w15.cell? ⟨w5.heap.size, 4, none⟩ = some (.slice (some ⟨g158, 0, none⟩) m1 m1) := hk'.cell (by simp <;> omega) c14_o61_4
    clear c14_o61_4 ac14_o61_4
    have c15_o61_5 : w15.cell? ⟨w5.heap.size, 5, none⟩ = some (.slice (some ⟨g260, 0, none⟩) k1 k1) := hk'.cell (by simp <;> omega) c14_o61_5
    clear c14_o61_5 ac14_o61_5
    have c15_o75_0 : w15.cell? ⟨w6.heap.size, 0, none⟩ = some (.int .i64 RR.1.1) := hk'.cell (by simp <;> omega) c14_o75_0
    clear c14_o75_0 ac14_o75_0
    have c15_o75_1 : w15.cell? ⟨w6.heap.size, 1, none⟩ = some (.int .i64 RR.1.2.1) := hk'.cell (by simp <;> omega) c14_o75_1
    clear c14_o75_1 ac14_o75_1
    have c15_o75_2 : w15.cell? ⟨w6.heap.size, 2, none⟩ = some (.int .i64 RR.1.2.2.1) := hk'.cell (by simp <;> omega) c14_o75_2
    clear c14_o75_2 ac14_o75_2
    have c15_o75_3 : w15.cell? ⟨w6.heap.size, 3, none⟩ = some (.slice A62 n63 c64) := hk'.cell (by simp <;> omega) c14_o75_3
    clear c14_o75_3 ac14_o75_3
    have c15_o75_4 : w15.cell? ⟨w6.heap.size, 4, none⟩ = some (.slice B66 m67 d68) := hk'.cell (by simp <;> omega) c14_o75_4
    clear c14_o75_4 ac14_o75_4
    have c15_o75_5 : w15.cell? ⟨w6.heap.size, 5, none⟩ = some (.slice C70 k71 e72) := hk'.cell (by simp <;> omega) c14_o75_5
    clear c14_o75_5 ac14_o75_5
    have ac15_a0_0 := fun o => keepa o c15_a0_0
    have ac15_a0_1 := fun o => keepa o c15_a0_1
    have ac15_a0_2 := fun o => keepa o c15_a0_2
    have ac15_a1_0 := fun o => keepa o c15_a1_0
    have ac15_a1_1 := fun o => keepa o c15_a1_1
    have ac15_a1_2 := fun o => keepa o c15_a1_2
    have ac15_a1_3 := fun o => keepa o c15_a1_3
    have ac15_a1_4 := fun o => keepa o c15_a1_4
    have ac15_a1_5 := fun o => keepa o c15_a1_5
    have ac15_o53_0 := fun o => keepa o c15_o53_0
    have ac15_o53_1 := fun o => keepa o c15_o53_1
    have ac15_o53_2 := fun o => keepa o c15_o53_2
    have ac15_o53_3 := fun o => keepa o c15_o53_3
    have ac15_o53_4 := fun o => keepa o c15_o53_4
    have ac15_o53_5 := fun o => keepa o c15_o53_5
    have ac15_o55_0 := fun o => keepa o c15_o55_0
    have ac15_o55_1 := fun o => keepa o c15_o55_1
    have ac15_o55_2 := fun o => keepa o c15_o55_2
    have ac15_o61_0 := fun o => keepa o c15_o61_0
    have ac15_o61_1 := fun o => keepa o c15_o61_1
    have ac15_o61_2 := fun o => keepa o c15_o61_2
    have ac15_o61_3 := fun o => keepa o c15_o61_3
    have ac15_o61_4 := fun o => keepa o c15_o61_4
    have ac15_o61_5 := fun o => keepa o c15_o61_5
    have ac15_o75_0 := fun o => keepa o c15_o75_0
    have ac15_o75_1 := fun o => keepa o c15_o75_1
    have ac15_o75_2 := fun o => keepa o c15_o75_2
    have ac15_o75_3 := fun o => keepa o c15_o75_3
    have ac15_o75_4 := fun o => keepa o c15_o75_4
    have ac15_o75_5 := fun o => keepa o c15_o75_5
    have rP0 := P0.out.keep hk' (by omega); clear P0; have P0 := Lib.hid rP0; clear rP0
    have rP1 := P1.out.keep hk' (by omega); clear P1; have P1 := Lib.hid rP1; clear rP1
    have rFo53 := Fo53.out.keep hk' (by omega); clear Fo53; have Fo53 := Lib.hid rFo53; clear rFo53
    have rFo55 := Fo55.out.keep hk' (by omega); clear Fo55; have Fo55 := Lib.hid rFo55; clear rFo55
    have rFo61 := Fo61.out.keep hk' (by omega); clear Fo61; have Fo61 := Lib.hid rFo61; clear rFo61
    have rFo75 := q15; clear Fo75; have Fo75 := Lib.hid rFo75; clear rFo75 q15
    have rB := B.out.trans (hk'.below (B := w.heap.size) (by omega) (by omega)); clear B; have B := Lib.hid rB; clear rB
    clear hk hk'
    go_wp2_with fail
    refine (heldFormula_c _ _ _ _ _ _ _ _ _ _ _ _ _ _ _ _ _ (by exact (Fo75.out.rd)) (by omega) (by omega) (by omega) hI0_o75 (by omega) hI1_o75 (by omega) (by omega) (by omega)).mono ?_
    rintro e w16 ⟨rfl, hb⟩
    have hb' : Below w15.heap.size w15 w16 := (by first | (with_reducible exact hb) | (with_reducible exact up1 hb) | (with_reducible exact up2 hb) | (with_reducible exact up3 hb) | (with_reducible exact up4 hb) | (with_reducible exact below_of_drew hb) | (with_reducible exact below_of_drew (up1 hb)))
    have z16 := hb'.size
    have c16_a0_0 : w16.cell? ⟨w.heap.size, 0, none⟩ = some (.int .i64 sy0) := keepc hb' c15_a0_0
    clear c15_a0_0 ac15_a0_0
    have c16_a0_1 : w16.cell? ⟨w.heap.size, 1, none⟩ = some (.int .i64 st0) := keepc hb' c15_a0_1
    clear c15_a0_1 ac15_a0_1
    have c16_a0_2 : w16.cell? ⟨w.heap.size, 2, none⟩ = some (.slice A0 n0 c0) := keepc hb' c15_a0_2
    clear c15_a0_2 ac15_a0_2
    have c16_a1_0 : w16.cell? ⟨(w.heap.size + 1), 0, none⟩ = some (.int .i64 st1) := keepc hb' c15_a1_0
    clear c15_a1_0 ac15_a1_0
    have c16_a1_1 : w16.cell? ⟨(w.heap.size + 1), 1, none⟩ = some (.int .i64 hd1) := keepc hb' c15_a1_1
    clear c15_a1_1 ac15_a1_1
    have c16_a1_2 : w16.cell? ⟨(w.heap.size + 1), 2, none⟩ = some (.int .i64 at1) := keepc hb' c15_a1_2
    clear c15_a1_2 ac15_a1_2
    have c16_a1_3 : w16.cell? ⟨(w.heap.size + 1), 3, none⟩ = some (.slice A1 n1 c1) := keepc hb' c15_a1_3
    clear c15_a1_3 ac15_a1_3
    have c16_a1_4 : w16.cell? ⟨(w.heap.size + 1), 4, none⟩ = some (.slice B1 m1 d1) := keepc hb' c15_a1_4
    clear c15_a1_4 ac15_a1_4
    have c16_a1_5 : w16.cell? ⟨(w.heap.size + 1), 5, none⟩ = some (.slice C1 k1 e1) := keepc hb' c15_a1_5
    clear c15_a1_5 ac15_a1_5
    have c16_o53_0 : w16.cell? ⟨g22, 0, none⟩ = some (.int .i64 RR.1.1) := keepc hb' c15_o53_0
    clear c15_o53_0 ac15_o53_0
    have c16_o53_1 : w16.cell? ⟨g22, 1, none⟩ = some (.int .i64 RR.1.2.1) := keepc hb' c15_o53_1
    clear c15_o53_1 ac15_o53_1
    have c16_o53_2 : w16.cell? ⟨g22, 2, none⟩ = some (.int .i64 RR.1.2.2.1) := keepc hb' c15_o53_2
    clear c15_o53_2 ac15_o53_2
    have c16_o53_3 : w16.cell? ⟨g22, 3, none⟩ = some (.slice A11 n12 c13) := keepc hb' c15_o53_3
    clear c15_o53_3 ac15_o53_3
    have c16_o53_4 : w16.cell? ⟨g22, 4, none⟩ = some (.slice B15 m16 d17) := keepc hb' c15_o53_4
    clear c15_o53_4 ac15_o53_4
    have c16_o53_5 : w16.cell? ⟨g22, 5, none⟩ = some (.slice C19 k20 e21) := keepc hb' c15_o53_5
    clear c15_o53_5 ac15_o53_5
    have c16_o55_0 : w16.cell? ⟨w4.heap.size, 0, none⟩ = some (.int .i64 sy0) := keepc hb' c15_o55_0
    clear c15_o55_0 ac15_o55_0
    have c16_o55_1 : w16.cell? ⟨w4.heap.size, 1, none⟩ = some (.int .i64 st0) := keepc hb' c15_o55_1
    clear c15_o55_1 ac15_o55_1
    have c16_o55_2 : w16.cell? ⟨w4.heap.size, 2, none⟩ = some (.slice (some ⟨g054, 0, none⟩) n0 n0) := keepc hb' c15_o55_2
    clear c15_o55_2 ac15_o55_2
    have c16_o61_0 : w16.cell? ⟨w5.heap.size, 0, none⟩ = some (.int .i64 st1) := keepc hb' c15_o61_0
    clear c15_o61_0 ac15_o61_0
    have c16_o61_1 : w16.cell? ⟨w5.heap.size, 1, none⟩ = some (.int .i64 hd1) := keepc hb' c15_o61_1
    clear c15_o61_1 ac15_o61_1
    have c16_o61_2 : w16.cell? ⟨w5.heap.size, 2, none⟩ = some (.int .i64 at1) := keepc hb' c15_o61_2
    clear c15_o61_2 ac15_o61_2
    have c16_o61_3 : w16.cell? ⟨w5.heap.size, 3, none⟩ = some (.slice (some ⟨g056, 0, none⟩) n1 n1) := keepc hb' c15_o61_3
    clear c15_o61_3 ac15_o61_3
    have c16_o61_4 : w16.cell? ⟨w5.heap.size, 4, none⟩ = some (.slice (some ⟨g158, 0, none⟩) m1 m1) := keepc hb' c15_o61_4
    clear c15_o61_4 ac15_o61_4
    have c16_o61_5 : w16.cell? ⟨w5.heap.size, 5, none⟩ = some (.slice (some ⟨g260, 0, none⟩) k1 k1) := keepc hb' c15_o61_5
    clear c15_o61_5 ac15_o61_5
    have c16_o75_0 : w16.cell? ⟨w6.heap.size, 0, none⟩ = some (.int .i64 RR.1.1) := keepc hb' c15_o75_0
    clear c15_o75_0 ac15_o75_0
    have c16_o75_1 : w16.cell? ⟨w6.heap.size, 1, none⟩ = some (.int .i64 RR.1.2.1) := keepc hb' c15_o75_1
    clear c15_o75_1 ac15_o75_1
    have c16_o75_2 : w16.cell? ⟨w6.heap.size, 2, none⟩ = some (.int .i64 RR.1.2.2.1) := keepc hb' c15_o75_2
    clear c15_o75_2 ac15_o75_2
    have c16_o75_3 : w16.cell? ⟨w6.heap.size, 3, none⟩ = some (.slice A62 n63 c64) := keepc hb' c15_o75_3
    clear c15_o75_3 ac15_o75_3
    have c16_o75_4 : w16.cell? ⟨w6.heap.size, 4, none⟩ = some (.slice B66 m67 d68) := keepc hb' c15_o75_4
    clear c15_o75_4 ac15_o75_4
    have c16_o75_5 : w16.cell? ⟨w6.heap.size, 5, none⟩ = some (.slice C70 k71 e72) := keepc hb' c15_o75_5
    clear c15_o75_5 ac15_o75_5
    have ac16_a0_0 := fun o => keepa o c16_a0_0
    have ac16_a0_1 := fun o => keepa o c16_a0_1
    have ac16_a0_2 := fun o => keepa o c16_a0_2
    have ac16_a1_0 := fun o => keepa o c16_a1_0
    have ac16_a1_1 := fun o => keepa o c16_a1_1
    have ac16_a1_2 := fun o => keepa o c16_a1_2
    have ac16_a1_3 := fun o => keepa o c16_a1_3
    have ac16_a1_4 := fun o => keepa o c16_a1_4
    have ac16_a1_5 := fun o => keepa o c16_a1_5
    have ac16_o53_0 := fun o => keepa o c16_o53_0
    have ac16_o53_1 := fun o => keepa o c16_o53_1
    have ac16_o53_2 := fun o => keepa o c16_o53_2
    have ac16_o53_3 := fun o => keepa o c16_o53_3
    have ac16_o53_4 := fun o => keepa o c16_o53_4
    have ac16_o53_5 := fun o => keepa o c16_o53_5
    have ac16_o55_0 := fun o => keepa o c16_o55_0
    have ac16_o55_1 := fun o => keepa o c16_o55_1
    have ac16_o55_2 := fun o => keepa o c16_o55_2
    have ac16_o61_0 := fun o => keepa o c16_o61_0
    have ac16_o61_1 := fun o => keepa o c16_o61_1
    have ac16_o61_2 := fun o => keepa o c16_o61_2
    have ac16_o61_3 := fun o => keepa o c16_o61_3
    have ac16_o61_4 := fun o => keepa o c16_o61_4
    have ac16_o61_5 := fun o => keepa o c16_o61_5
    have ac16_o75_0 := fun o => keepa o c16_o75_0
    have ac16_o75_1 := fun o => keepa o c16_o75_1
    have ac16_o75_2 := fun o => keepa o c16_o75_2
    have ac16_o75_3 := fun o => keepa o c16_o75_3
    have ac16_o75_4 := fun o => keepa o c16_o75_4
    have ac16_o75_5 := fun o => keepa o c16_o75_5
    have rP0 := P0.out.below hb'; clear P0; have P0 := Lib.hid rP0; clear rP0
    have rP1 := P1.out.below hb'; clear P1; have P1 := Lib.hid rP1; clear rP1
    have rFo53 := Fo53.out.below hb'; clear Fo53; have Fo53 := Lib.hid rFo53; clear rFo53
    have rFo55 := Fo55.out.below hb'; clear Fo55; have Fo55 := Lib.hid rFo55; clear rFo55
    have rFo61 := Fo61.out.below hb'; clear Fo61; have Fo61 := Lib.hid rFo61; clear rFo61
    have rFo75 := Fo75.out.below hb'; clear Fo75; have Fo75 := Lib.hid rFo75; clear rFo75
    have rB := below_chain B.out (by omega) hb'; clear B; have B := Lib.hid rB; clear rB
    clear hb hb'
    go_wp2_with fail
    go_cut [15, 16] (fun v0 v1 wx => ∃ (g95 : Nat) (A84 : Option Addr) (n85 : Nat) (c86 : Nat) (its87 : List It) (B88 : Option Addr) (m89 : Nat) (d90 : Nat) (jts91 : List It) (C92 : Option Addr) (k93 : Nat) (e94 : Nat), v0 = .pointer (some ⟨g95, 0, none⟩) ∧ v1 = .int .i64 RR.2 ∧ wx.cell? ⟨g95, 0, none⟩ = some (.int .i64 RR.1.1) ∧ wx.cell? ⟨g95, 1, none⟩ = some (.int .i64 RR.1.2.1) ∧ wx.cell? ⟨g95, 2, none⟩ = some (.int .i64 RR.1.2.2.1) ∧ wx.cell? ⟨g95, 3, none⟩ = some (.slice A84 n85 c86) ∧ wx.cell? ⟨g95, 4, none⟩ = some (.slice B88 m89 d90) ∧ wx.cell? ⟨g95, 5, none⟩ = some (.slice C92 k93 e94) ∧ WrS wx w16.heap.size wx.heap.size (sgII A84 n85 its87 ++ sgII B88 m89 jts91 ++ [sgI C92 k93 (RR.1).2.2.2.2.2]) ∧ (n85 ≤ 1000 ∧ m89 ≤ 1000 ∧ k93 ≤ 1000 ∧ (∀ t ∈ its87, t.n ≤ 100000) ∧ sumN its87 ≤ 100000000 ∧ its87.map It.xs = (RR.1).2.2.2.1 ∧ (∀ t ∈ jts91, t.n ≤ 100000) ∧ sumN jts91 ≤ 100000000 ∧ jts91.map It.xs = (RR.1).2.2.2.2.1) ∧ w16.heap.size ≤ g95 ∧ Below w16.heap.size w16 wx)
    case first =>
      have fx_c16_a0_0 := Ext.cell c16_a0_0
      have fx_c16_a0_1 := Ext.cell c16_a0_1
      have fx_c16_a0_2 := Ext.cell c16_a0_2
      have fx_c16_a1_0 := Ext.cell c16_a1_0
      have fx_c16_a1_1 := Ext.cell c16_a1_1
      have fx_c16_a1_2 := Ext.cell c16_a1_2
      have fx_c16_a1_3 := Ext.cell c16_a1_3
      have fx_c16_a1_4 := Ext.cell c16_a1_4
      have fx_c16_a1_5 := Ext.cell c16_a1_5
      have fx_c16_o53_0 := Ext.cell c16_o53_0
      have fx_c16_o53_1 := Ext.cell c16_o53_1
      have fx_c16_o53_2 := Ext.cell c16_o53_2
      have fx_c16_o53_3 := Ext.cell c16_o53_3
      have fx_c16_o53_4 := Ext.cell c16_o53_4
      have fx_c16_o53_5 := Ext.cell c16_o53_5
      have fx_c16_o55_0 := Ext.cell c16_o55_0
      have fx_c16_o55_1 := Ext.cell c16_o55_1
      have fx_c16_o55_2 := Ext.cell c16_o55_2
      have fx_c16_o61_0 := Ext.cell c16_o61_0
      have fx_c16_o61_1 := Ext.cell c16_o61_1
      have fx_c16_o61_2 := Ext.cell c16_o61_2
      have fx_c16_o61_3 := Ext.cell c16_o61_3
      have fx_c16_o61_4 := Ext.cell c16_o61_4
      have fx_c16_o61_5 := Ext.cell c16_o61_5
      have fx_c16_o75_0 := Ext.cell c16_o75_0
      have fx_c16_o75_1 := Ext.cell c16_o75_1
      have fx_c16_o75_2 := Ext.cell c16_o75_2
      have fx_c16_o75_3 := Ext.cell c16_o75_3
      have fx_c16_o75_4 := Ext.cell c16_o75_4
      have fx_c16_o75_5 := Ext.cell c16_o75_5
      refine Mix.wp_region_mixF 8 [3, 1, 3, 1, 1, 0, 0, 0, 1, 2, 0] (fun w' => ∃ x : Ext w16, w' = x.w) (by kernel_rfl) (by kernel_rfl) (InExt.drew _) _ _ (by rfl) ?_
      simp only [List.take_succ_cons, List.take_zero, List.drop_succ_cons, List.drop_zero]
      have e0 : Below w16.heap.size w16 w16.drew := InExt.out (InExt.drew _)
      refine Mix.wpF_3 ?_
      (refine Mix.wpMix_read (by rfl) ?_; go_big_quiet_step (fail); refine wpQuiet_nil ?_)
      refine Mix.wpMix_nil ?_
      refine Mix.wpF_1 ?_ ?_
      · simp only [List.cons_append, List.nil_append]
        have e0p := e0
        refine Mix.wpMix_chg (by rfl) (fun K hK => ?_)
        go_wp2_with fail
        refine hK _ _ ⟨⟨_, e0.alloc e0.size _⟩, rfl⟩ ?_
        clear hK K
        have bk : Blk (w16.drew.alloc (.cells #[.int .i64 0, .int .i64 0, .int .i64 0, .slice none 0 0, .slice none 0 0, .slice none 0 0] 29)) w16.heap.size 29 #[.int .i64 0, .int .i64 0, .int .i64 0, .slice none 0 0, .slice none 0 0, .slice none 0 0] := Blk.new _ _ _
        have e0 := e0.alloc e0.size (.cells #[.int .i64 0, .int .i64 0, .int .i64 0, .slice none 0 0, .slice none 0 0, .slice none 0 0] 29)
        refine Mix.wpMix_chg (by rfl) (fun K hK => ?_)
        go_wp2_with fail
        refine (toMachine_c _ _ _ _ _ _ _ (by exact ((P0.out.rd).below e0)) (by omega)).mono ?_
        rintro e ua11 ⟨g098, rfl, q99, hb⟩
        try simp only [World.size_alloc] at q99
        have e0 := below_chain e0 e0.size hb
        have bk := bk.keep hb
        have e_q99 : Below ua11.heap.size ua11 ua11 := below_size
        have zua11 : w16.heap.size + 1 ≤ ua11.heap.size := by first | exact hb.size | exact Nat.le_trans (Nat.le_of_eq (World.size_alloc ..).symm) hb.size
        clear hb
        go_wp2_with fail
        refine hK _ _ ⟨⟨_, e0⟩, rfl⟩ ?_
        clear hK K
        (refine Mix.wpMix_read (by rfl) ?_; go_big_quiet_step (fail); refine wpQuiet_nil ?_)
        refine Mix.wpMix_chg (by rfl) (fun K hK => ?_)
        go_wp2_with fail
        refine (toFormula_c _ _ _ _ _ _ _ _ _ _ _ _ _ _ _ _ (by exact ((P1.out.rd).below e0)) (by omega) (by omega) (by omega) hI0_a1 hI1_a1).mono ?_
        rintro e ua13 ⟨g0100, js0101, g1102, js1103, g2104, rfl, hx106, hx107, q105, hb⟩
        try simp only [World.size_alloc] at q105
        have hI_hx106 : ∀ t ∈ js0101, t.n ≤ 1000000000 := hi_of ((((P1.out.rd).below e0)).left.left) (((q105).rd).left.left) hx106 hI0_a1
        have hx106h := Lib.hid hx106; clear hx106
        have hI_hx107 : ∀ t ∈ js1103, t.n ≤ 1000000000 := hi_of ((((P1.out.rd).below e0)).left.right) (((q105).rd).left.right) hx107 hI1_a1
        have hx107h := Lib.hid hx107; clear hx107
        have e_q99 := below_chain e_q99 e_q99.size hb
        have e0 := below_chain e0 e0.size hb
        have bk := bk.keep hb
        have e_q105 : Below ua13.heap.size ua13 ua13 := below_size
        have zua13 : ua11.heap.size ≤ ua13.heap.size := by first | exact hb.size | exact Nat.le_trans (Nat.le_of_eq (World.size_alloc ..).symm) hb.size
        clear hb
        go_wp2_with fail
        refine hK _ _ ⟨⟨_, e0⟩, rfl⟩ ?_
        clear hK K
        refine Mix.wpMix_chg (by rfl) (fun K hK => ?_)
        go_wp2_with fail
        refine (iNormalFormula_c _ _ _ _ _ _ _ _ _ _ _ _ _ _ _ _ _ _ _ _ _ _ (by exact (q99.below e_q99).rd) (by exact (q105.below e_q105).rd) (by omega) (by omega) (by omega) (by omega) hI_hx106 hI_hx107 hx106h.out hx107h.out HRR.out).mono ?_
        rintro e ua14 ⟨A84, n85, c86, its87, B88, m89, d90, jts91, C92, k93, e94, rfl, q96, l97, hb⟩
        have e_q99 := below_chain e_q99 e_q99.size hb
        have e_q105 := below_chain e_q105 e_q105.size hb
        have e0 := below_chain e0 e0.size hb
        have bk := bk.keep hb
        have e_q96 : Below ua14.heap.size ua14 ua14 := below_size
        have zua14 : ua13.heap.size ≤ ua14.heap.size := by first | exact hb.size | exact Nat.le_trans (Nat.le_of_eq (World.size_alloc ..).symm) hb.size
        have q96 : WrS ua14 (ua13.heap.size) ua14.heap.size (sgII A84 n85 its87 ++ sgII B88 m89 jts91 ++ [sgI C92 k93 (RR.1).2.2.2.2.2]) := by first | exact q96.wider (Nat.le_refl _) (Nat.le_refl _) | exact q96.wider (Nat.le_of_eq (World.size_alloc ..).symm) (Nat.le_refl _)
        clear hb
        go_wp2_with fail
        refine hK _ _ ⟨⟨_, e0⟩, rfl⟩ ?_
        clear hK K
        (refine Mix.wpMix_pure (by rfl) ?_; go_big_quiet_step (fail); refine wpQuiet_nil ?_)
        (refine Mix.wpMix_pure (by rfl) ?_; go_big_quiet_step (fail); refine wpQuiet_nil ?_)
        (refine Mix.wpMix_pure (by rfl) ?_; go_big_quiet_step (fail); refine wpQuiet_nil ?_)
        repeat (first | (refine Mix.wpMix_read (by rfl) ?_; go_big_quiet_step (fail); refine wpQuiet_nil ?_) | (refine Mix.wpMix_pure (by rfl) ?_; go_big_quiet_step (fail); refine wpQuiet_nil ?_))
        have d0 := bk.cell 0; have f0 := bk.frozen 0
        simp at d0
        have d1 := bk.cell 1; have f1 := bk.frozen 1
        simp at d1
        have d2 := bk.cell 2; have f2 := bk.frozen 2
        simp at d2
        have d3 := bk.cell 3; have f3 := bk.frozen 3
        simp at d3
        have d4 := bk.cell 4; have f4 := bk.frozen 4
        simp at d4
        have d5 := bk.cell 5; have f5 := bk.frozen 5
        simp at d5
        refine Mix.wpMix_tail (by rfl) (fun K hK => ?_)
        go_wp2_with fail
        refine hK _ _ ?_
        clear hK K
        repeat (first | (refine Mix.wpMix_read (by rfl) ?_; go_big_quiet_step (fail); refine wpQuiet_nil ?_) | (refine Mix.wpMix_pure (by rfl) ?_; go_big_quiet_step (fail); refine wpQuiet_nil ?_))
        (refine Mix.wpMix_nil ?_; try simp only [Exit.then])
        go_wp2_with fail
        go_meet
        have bk2 := ((((((bk.set_ 0 (.int .i64 RR.1.1)).set_ 1 (.int .i64 RR.1.2.1)).set_ 2 (.int .i64 RR.1.2.2.1)).set_ 3 (.slice A84 n85 c86)).set_ 4 (.slice B88 m89 d90)).set_ 5 (.slice C92 k93 e94))
        have bk3 := bk2
        simp only [List.setIfInBounds_toArray, List.set_cons_succ, List.set_cons_zero] at bk3
        refine ⟨w16.heap.size, A84, n85, c86, its87, B88, m89, d90, jts91, C92, k93, e94, rfl, rfl, (by first | ((with_reducible refine Eq.trans (new_cell _ _ _ 0) ?_); rfl) | exact bk3.cell 0), (by first | ((with_reducible refine Eq.trans (new_cell _ _ _ 1) ?_); rfl) | exact bk3.cell 1), (by first | ((with_reducible refine Eq.trans (new_cell _ _ _ 2) ?_); rfl) | exact bk3.cell 2), (by first | ((with_reducible refine Eq.trans (new_cell _ _ _ 3) ?_); rfl) | exact bk3.cell 3), (by first | ((with_reducible refine Eq.trans (new_cell _ _ _ 4) ?_); rfl) | exact bk3.cell 4), (by first | ((with_reducible refine Eq.trans (new_cell _ _ _ 5) ?_); rfl) | exact bk3.cell 5), ?_, l97, ?_, ?_⟩
        · first | (with_reducible refine WrS.wider (q96.alloc _) ?_ ?_) | refine WrS.wider (WrS.set6 q96 ?_) ?_ (by simp)
          all_goals exact (by first | omega | exact Nat.le_refl _ | (simp; done) | (simp; omega))
        · exact (by first | omega | exact Nat.le_refl _ | (simp; done) | (simp; omega))
        · first | (with_reducible refine Below.alloc e0p ?_ _) | refine below_set6 e0 ?_
          exact (by first | omega | exact Nat.le_refl _ | (simp; done) | (simp; omega))
      refine Mix.wpMix_chg (by rfl) (fun K hK => ?_)
      go_wp2_with fail
      refine (toMachine_c _ _ _ _ _ _ _ (by exact ((P0.out.rd).below e0)) (by omega)).mono ?_
      rintro e u1 ⟨g0108, rfl, q109, hb⟩
      try simp only [World.size_alloc] at q109
      have e0 := below_chain e0 e0.size hb
      have e_q109 : Below u1.heap.size u1 u1 := below_size
      have zu1 : w16.heap.size ≤ u1.heap.size := by first | exact hb.size | exact Nat.le_trans (Nat.le_of_eq (World.size_alloc ..).symm) hb.size
      clear hb
      go_wp2_with fail
      refine hK _ _ ⟨⟨_, e0⟩, rfl⟩ ?_
      clear hK K
      refine Mix.wpMix_nil ?_
      refine Mix.wpF_3 ?_
      (refine Mix.wpMix_read (by rfl) ?_; go_big_quiet_step (fail); refine wpQuiet_nil ?_)
      refine Mix.wpMix_nil ?_
      refine Mix.wpF_1 ?_ ?_
      · simp only [List.cons_append, List.nil_append]
        have e0p := e0
        refine Mix.wpMix_chg (by rfl) (fun K hK => ?_)
        go_wp2_with fail
        refine hK _ _ ⟨⟨_, e0.alloc e0.size _⟩, rfl⟩ ?_
        clear hK K
        have e_q109 := e_q109.alloc e_q109.size (.cells #[.int .i64 0, .int .i64 0, .int .i64 0, .slice none 0 0, .slice none 0 0, .slice none 0 0] 29)
        have bk : Blk (u1.alloc (.cells #[.int .i64 0, .int .i64 0, .int .i64 0, .slice none 0 0, .slice none 0 0, .slice none 0 0] 29)) u1.heap.size 29 #[.int .i64 0, .int .i64 0, .int .i64 0, .slice none 0 0, .slice none 0 0, .slice none 0 0] := Blk.new _ _ _
        have e0 := e0.alloc e0.size (.cells #[.int .i64 0, .int .i64 0, .int .i64 0, .slice none 0 0, .slice none 0 0, .slice none 0 0] 29)
        refine Mix.wpMix_chg (by rfl) (fun K hK => ?_)
        go_wp2_with fail
        refine (toFormula_c _ _ _ _ _ _ _ _ _ _ _ _ _ _ _ _ (by exact ((P1.out.rd).below e0)) (by omega) (by omega) (by omega) hI0_a1 hI1_a1).mono ?_
        rintro e ua33 ⟨g0110, js0111, g1112, js1113, g2114, rfl, hx116, hx117, q115, hb⟩
        try simp only [World.size_alloc] at q115
        have hI_hx116 : ∀ t ∈ js0111, t.n ≤ 1000000000 := hi_of ((((P1.out.rd).below e0)).left.left) (((q115).rd).left.left) hx116 hI0_a1
        have hx116h := Lib.hid hx116; clear hx116
        have hI_hx117 : ∀ t ∈ js1113, t.n ≤ 1000000000 := hi_of ((((P1.out.rd).below e0)).left.right) (((q115).rd).left.right) hx117 hI1_a1
        have hx117h := Lib.hid hx117; clear hx117
        have e_q109 := below_chain e_q109 e_q109.size hb
        have e0 := below_chain e0 e0.size hb
        have bk := bk.keep hb
        have e_q115 : Below ua33.heap.size ua33 ua33 := below_size
        have zua33 : u1.heap.size + 1 ≤ ua33.heap.size := by first | exact hb.size | exact Nat.le_trans (Nat.le_of_eq (World.size_alloc ..).symm) hb.size
        clear hb
        go_wp2_with fail
        refine hK _ _ ⟨⟨_, e0⟩, rfl⟩ ?_
        clear hK K
        refine Mix.wpMix_chg (by rfl) (fun K hK => ?_)
        go_wp2_with fail
        refine (iNormalFormula_c _ _ _ _ _ _ _ _ _ _ _ _ _ _ _ _ _ _ _ _ _ _ (by exact (q109.below e_q109).rd) (by exact (q115.below e_q115).rd) (by omega) (by omega) (by omega) (by omega) hI_hx116 hI_hx117 hx116h.out hx117h.out HRR.out).mono ?_
        rintro e ua34 ⟨A84, n85, c86, its87, B88, m89, d90, jts91, C92, k93, e94, rfl, q96, l97, hb⟩
        have e_q109 := below_chain e_q109 e_q109.size hb
        have e_q115 := below_chain e_q115 e_q115.size hb
        have e0 := below_chain e0 e0.size hb
        have bk := bk.keep hb
        have e_q96 : Below ua34.heap.size ua34 ua34 := below_size
        have zua34 : ua33.heap.size ≤ ua34.heap.size := by first | exact hb.size | exact Nat.le_trans (Nat.le_of_eq (World.size_alloc ..).symm) hb.size
        have q96 : WrS ua34 (ua33.heap.size) ua34.heap.size (sgII A84 n85 its87 ++ sgII B88 m89 jts91 ++ [sgI C92 k93 (RR.1).2.2.2.2.2]) := by first | exact q96.wider (Nat.le_refl _) (Nat.le_refl _) | exact q96.wider (Nat.le_of_eq (World.size_alloc ..).symm) (Nat.le_refl _)
        clear hb
        go_wp2_with fail
        refine hK _ _ ⟨⟨_, e0⟩, rfl⟩ ?_
        clear hK K
        (refine Mix.wpMix_pure (by rfl) ?_; go_big_quiet_step (fail); refine wpQuiet_nil ?_)
        (refine Mix.wpMix_pure (by rfl) ?_; go_big_quiet_step (fail); refine wpQuiet_nil ?_)
        (refine Mix.wpMix_pure (by rfl) ?_; go_big_quiet_step (fail); refine wpQuiet_nil ?_)
        repeat (first | (refine Mix.wpMix_read (by rfl) ?_; go_big_quiet_step (fail); refine wpQuiet_nil ?_) | (refine Mix.wpMix_pure (by rfl) ?_; go_big_quiet_step (fail); refine wpQuiet_nil ?_))
        have d0 := bk.cell 0; have f0 := bk.frozen 0
        simp at d0
        have d1 := bk.cell 1; have f1 := bk.frozen 1
        simp at d1
        have d2 := bk.cell 2; have f2 := bk.frozen 2
        simp at d2
        have d3 := bk.cell 3; have f3 := bk.frozen 3
        simp at d3
        have d4 := bk.cell 4; have f4 := bk.frozen 4
        simp at d4
        have d5 := bk.cell 5; have f5 := bk.frozen 5
        simp at d5
        refine Mix.wpMix_tail (by rfl) (fun K hK => ?_)
        go_wp2_with fail
        refine hK _ _ ?_
        clear hK K
        repeat (first | (refine Mix.wpMix_read (by rfl) ?_; go_big_quiet_step (fail); refine wpQuiet_nil ?_) | (refine Mix.wpMix_pure (by rfl) ?_; go_big_quiet_step (fail); refine wpQuiet_nil ?_))
        (refine Mix.wpMix_nil ?_; try simp only [Exit.then])
        go_wp2_with fail
        go_meet
        have bk2 := ((((((bk.set_ 0 (.int .i64 RR.1.1)).set_ 1 (.int .i64 RR.1.2.1)).set_ 2 (.int .i64 RR.1.2.2.1)).set_ 3 (.slice A84 n85 c86)).set_ 4 (.slice B88 m89 d90)).set_ 5 (.slice C92 k93 e94))
        have bk3 := bk2
        simp only [List.setIfInBounds_toArray, List.set_cons_succ, List.set_cons_zero] at bk3
        refine ⟨u1.heap.size, A84, n85, c86, its87, B88, m89, d90, jts91, C92, k93, e94, rfl, rfl, (by first | ((with_reducible refine Eq.trans (new_cell _ _ _ 0) ?_); rfl) | exact bk3.cell 0), (by first | ((with_reducible refine Eq.trans (new_cell _ _ _ 1) ?_); rfl) | exact bk3.cell 1), (by first | ((with_reducible refine Eq.trans (new_cell _ _ _ 2) ?_); rfl) | exact bk3.cell 2), (by first | ((with_reducible refine Eq.trans (new_cell _ _ _ 3) ?_); rfl) | exact bk3.cell 3), (by first | ((with_reducible refine Eq.trans (new_cell _ _ _ 4) ?_); rfl) | exact bk3.cell 4), (by first | ((with_reducible refine Eq.trans (new_cell _ _ _ 5) ?_); rfl) | exact bk3.cell 5), ?_, l97, ?_, ?_⟩
        · first | (with_reducible refine WrS.wider (q96.alloc _) ?_ ?_) | refine WrS.wider (WrS.set6 q96 ?_) ?_ (by simp)
          all_goals exact (by first | omega | exact Nat.le_refl _ | (simp; done) | (simp; omega))
        · exact (by first | omega | exact Nat.le_refl _ | (simp; done) | (simp; omega))
        · first | (with_reducible refine Below.alloc e0p ?_ _) | refine below_set6 e0 ?_
          exact (by first | omega | exact Nat.le_refl _ | (simp; done) | (simp; omega))
      refine Mix.wpMix_chg (by rfl) (fun K hK => ?_)
      go_wp2_with fail
      refine (toFormula_c _ _ _ _ _ _ _ _ _ _ _ _ _ _ _ _ (by exact ((P1.out.rd).below e0)) (by omega) (by omega) (by omega) hI0_a1 hI1_a1).mono ?_
      rintro e u3 ⟨g0118, js0119, g1120, js1121, g2122, rfl, hx124, hx125, q123, hb⟩
      try simp only [World.size_alloc] at q123
      have hI_hx124 : ∀ t ∈ js0119, t.n ≤ 1000000000 := hi_of ((((P1.out.rd).below e0)).left.left) (((q123).rd).left.left) hx124 hI0_a1
      have hx124h := Lib.hid hx124; clear hx124
      have hI_hx125 : ∀ t ∈ js1121, t.n ≤ 1000000000 := hi_of ((((P1.out.rd).below e0)).left.right) (((q123).rd).left.right) hx125 hI1_a1
      have hx125h := Lib.hid hx125; clear hx125
      have e_q109 := below_chain e_q109 e_q109.size hb
      have e0 := below_chain e0 e0.size hb
      have e_q123 : Below u3.heap.size u3 u3 := below_size
      have zu3 : u1.heap.size ≤ u3.heap.size := by first | exact hb.size | exact Nat.le_trans (Nat.le_of_eq (World.size_alloc ..).symm) hb.size
      clear hb
      go_wp2_with fail
      refine hK _ _ ⟨⟨_, e0⟩, rfl⟩ ?_
      clear hK K
      refine Mix.wpMix_nil ?_
      refine Mix.wpF_1 ?_ ?_
      · simp only [List.cons_append, List.nil_append]
        have e0p := e0
        refine Mix.wpMix_chg (by rfl) (fun K hK => ?_)
        go_wp2_with fail
        refine hK _ _ ⟨⟨_, e0.alloc e0.size _⟩, rfl⟩ ?_
        clear hK K
        have e_q109 := e_q109.alloc e_q109.size (.cells #[.int .i64 0, .int .i64 0, .int .i64 0, .slice none 0 0, .slice none 0 0, .slice none 0 0] 29)
        have e_q123 := e_q123.alloc e_q123.size (.cells #[.int .i64 0, .int .i64 0, .int .i64 0, .slice none 0 0, .slice none 0 0, .slice none 0 0] 29)
        have bk : Blk (u3.alloc (.cells #[.int .i64 0, .int .i64 0, .int .i64 0, .slice none 0 0, .slice none 0 0, .slice none 0 0] 29)) u3.heap.size 29 #[.int .i64 0, .int .i64 0, .int .i64 0, .slice none 0 0, .slice none 0 0, .slice none 0 0] := Blk.new _ _ _
        have e0 := e0.alloc e0.size (.cells #[.int .i64 0, .int .i64 0, .int .i64 0, .slice none 0 0, .slice none 0 0, .slice none 0 0] 29)
        refine Mix.wpMix_chg (by rfl) (fun K hK => ?_)
        go_wp2_with fail
        refine (iNormalFormula_c _ _ _ _ _ _ _ _ _ _ _ _ _ _ _ _ _ _ _ _ _ _ (by exact (q109.below e_q109).rd) (by exact (q123.below e_q123).rd) (by omega) (by omega) (by omega) (by omega) hI_hx124 hI_hx125 hx124h.out hx125h.out HRR.out).mono ?_
        rintro e ua44 ⟨A84, n85, c86, its87, B88, m89, d90, jts91, C92, k93, e94, rfl, q96, l97, hb⟩
        have e_q109 := below_chain e_q109 e_q109.size hb
        have e_q123 := below_chain e_q123 e_q123.size hb
        have e0 := below_chain e0 e0.size hb
        have bk := bk.keep hb
        have e_q96 : Below ua44.heap.size ua44 ua44 := below_size
        have zua44 : u3.heap.size + 1 ≤ ua44.heap.size := by first | exact hb.size | exact Nat.le_trans (Nat.le_of_eq (World.size_alloc ..).symm) hb.size
        have q96 : WrS ua44 (u3.heap.size + 1) ua44.heap.size (sgII A84 n85 its87 ++ sgII B88 m89 jts91 ++ [sgI C92 k93 (RR.1).2.2.2.2.2]) := by first | exact q96.wider (Nat.le_refl _) (Nat.le_refl _) | exact q96.wider (Nat.le_of_eq (World.size_alloc ..).symm) (Nat.le_refl _)
        clear hb
        go_wp2_with fail
        refine hK _ _ ⟨⟨_, e0⟩, rfl⟩ ?_
        clear hK K
        (refine Mix.wpMix_pure (by rfl) ?_; go_big_quiet_step (fail); refine wpQuiet_nil ?_)
        (refine Mix.wpMix_pure (by rfl) ?_; go_big_quiet_step (fail); refine wpQuiet_nil ?_)
        (refine Mix.wpMix_pure (by rfl) ?_; go_big_quiet_step (fail); refine wpQuiet_nil ?_)
        repeat (first | (refine Mix.wpMix_read (by rfl) ?_; go_big_quiet_step (fail); refine wpQuiet_nil ?_) | (refine Mix.wpMix_pure (by rfl) ?_; go_big_quiet_step (fail); refine wpQuiet_nil ?_))
        have d0 := bk.cell 0; have f0 := bk.frozen 0
        simp at d0
        have d1 := bk.cell 1; have f1 := bk.frozen 1
        simp at d1
        have d2 := bk.cell 2; have f2 := bk.frozen 2
        simp at d2
        have d3 := bk.cell 3; have f3 := bk.frozen 3
        simp at d3
        have d4 := bk.cell 4; have f4 := bk.frozen 4
        simp at d4
        have d5 := bk.cell 5; have f5 := bk.frozen 5
        simp at d5
        refine Mix.wpMix_tail (by rfl) (fun K hK => ?_)
        go_wp2_with fail
        refine hK _ _ ?_
        clear hK K
        repeat (first | (refine Mix.wpMix_read (by rfl) ?_; go_big_quiet_step (fail); refine wpQuiet_nil ?_) | (refine Mix.wpMix_pure (by rfl) ?_; go_big_quiet_step (fail); refine wpQuiet_nil ?_))
        (refine Mix.wpMix_nil ?_; try simp only [Exit.then])
        go_wp2_with fail
        go_meet
        have bk2 := ((((((bk.set_ 0 (.int .i64 RR.1.1)).set_ 1 (.int .i64 RR.1.2.1)).set_ 2 (.int .i64 RR.1.2.2.1)).set_ 3 (.slice A84 n85 c86)).set_ 4 (.slice B88 m89 d90)).set_ 5 (.slice C92 k93 e94))
        have bk3 := bk2
        simp only [List.setIfInBounds_toArray, List.set_cons_succ, List.set_cons_zero] at bk3
        refine ⟨u3.heap.size, A84, n85, c86, its87, B88, m89, d90, jts91, C92, k93, e94, rfl, rfl, (by first | ((with_reducible refine Eq.trans (new_cell _ _ _ 0) ?_); rfl) | exact bk3.cell 0), (by first | ((with_reducible refine Eq.trans (new_cell _ _ _ 1) ?_); rfl) | exact bk3.cell 1), (by first | ((with_reducible refine Eq.trans (new_cell _ _ _ 2) ?_); rfl) | exact bk3.cell 2), (by first | ((with_reducible refine Eq.trans (new_cell _ _ _ 3) ?_); rfl) | exact bk3.cell 3), (by first | ((with_reducible refine Eq.trans (new_cell _ _ _ 4) ?_); rfl) | exact bk3.cell 4), (by first | ((with_reducible refine Eq.trans (new_cell _ _ _ 5) ?_); rfl) | exact bk3.cell 5), ?_, l97, ?_, ?_⟩
        · first | (with_reducible refine WrS.wider (q96.alloc _) ?_ ?_) | refine WrS.wider (WrS.set6 q96 ?_) ?_ (by simp)
          all_goals exact (by first | omega | exact Nat.le_refl _ | (simp; done) | (simp; omega))
        · exact (by first | omega | exact Nat.le_refl _ | (simp; done) | (simp; omega))
        · first | (with_reducible refine Below.alloc e0p ?_ _) | refine below_set6 e0 ?_
          exact (by first | omega | exact Nat.le_refl _ | (simp; done) | (simp; omega))
      refine Mix.wpMix_chg (by rfl) (fun K hK => ?_)
      go_wp2_with fail
      refine (iNormalFormula_c _ _ _ _ _ _ _ _ _ _ _ _ _ _ _ _ _ _ _ _ _ _ (by exact (q109.below e_q109).rd) (by exact (q123.below e_q123).rd) (by omega) (by omega) (by omega) (by omega) hI_hx124 hI_hx125 hx124h.out hx125h.out HRR.out).mono ?_
      rintro e u4 ⟨A84, n85, c86, its87, B88, m89, d90, jts91, C92, k93, e94, rfl, q96, l97, hb⟩
      have e_q109 := below_chain e_q109 e_q109.size hb
      have e_q123 := below_chain e_q123 e_q123.size hb
      have e0 := below_chain e0 e0.size hb
      have e_q96 : Below u4.heap.size u4 u4 := below_size
      have zu4 : u3.heap.size ≤ u4.heap.size := by first | exact hb.size | exact Nat.le_trans (Nat.le_of_eq (World.size_alloc ..).symm) hb.size
      have q96 : WrS u4 (u3.heap.size) u4.heap.size (sgII A84 n85 its87 ++ sgII B88 m89 jts91 ++ [sgI C92 k93 (RR.1).2.2.2.2.2]) := by first | exact q96.wider (Nat.le_refl _) (Nat.le_refl _) | exact q96.wider (Nat.le_of_eq (World.size_alloc ..).symm) (Nat.le_refl _)
      clear hb
      go_wp2_with fail
      refine hK _ _ ⟨⟨_, e0⟩, rfl⟩ ?_
      clear hK K
      refine Mix.wpMix_nil ?_
      refine Mix.wpF_0 ?_
      (refine Mix.wpMix_pure (by rfl) ?_; go_big_quiet_step (fail); refine wpQuiet_nil ?_)
      refine Mix.wpMix_nil ?_
      refine Mix.wpF_0 ?_
      (refine Mix.wpMix_pure (by rfl) ?_; go_big_quiet_step (fail); refine wpQuiet_nil ?_)
      refine Mix.wpMix_nil ?_
      refine Mix.wpF_0 ?_
      (refine Mix.wpMix_pure (by rfl) ?_; go_big_quiet_step (fail); refine wpQuiet_nil ?_)
      refine Mix.wpMix_nil ?_
      refine Mix.wpF_nil ?_
      have e0p := e0
      refine Mix.wpMix_chg (by rfl) (fun K hK => ?_)
      go_wp2_with fail
      refine hK _ _ ⟨⟨_, e0.alloc e0.size _⟩, rfl⟩ ?_
      clear hK K
      have e_q109 := e_q109.alloc e_q109.size (.cells #[.int .i64 0, .int .i64 0, .int .i64 0, .slice none 0 0, .slice none 0 0, .slice none 0 0] 29)
      have e_q123 := e_q123.alloc e_q123.size (.cells #[.int .i64 0, .int .i64 0, .int .i64 0, .slice none 0 0, .slice none 0 0, .slice none 0 0] 29)
      have e_q96 := e_q96.alloc e_q96.size (.cells #[.int .i64 0, .int .i64 0, .int .i64 0, .slice none 0 0, .slice none 0 0, .slice none 0 0] 29)
      have bk : Blk (u4.alloc (.cells #[.int .i64 0, .int .i64 0, .int .i64 0, .slice none 0 0, .slice none 0 0, .slice none 0 0] 29)) u4.heap.size 29 #[.int .i64 0, .int .i64 0, .int .i64 0, .slice none 0 0, .slice none 0 0, .slice none 0 0] := Blk.new _ _ _
      have e0 := e0.alloc e0.size (.cells #[.int .i64 0, .int .i64 0, .int .i64 0, .slice none 0 0, .slice none 0 0, .slice none 0 0] 29)
      repeat (first | (refine Mix.wpMix_read (by rfl) ?_; go_big_quiet_step (fail); refine wpQuiet_nil ?_) | (refine Mix.wpMix_pure (by rfl) ?_; go_big_quiet_step (fail); refine wpQuiet_nil ?_))
      have d0 := bk.cell 0; have f0 := bk.frozen 0
      simp at d0
      have d1 := bk.cell 1; have f1 := bk.frozen 1
      simp at d1
      have d2 := bk.cell 2; have f2 := bk.frozen 2
      simp at d2
      have d3 := bk.cell 3; have f3 := bk.frozen 3
      simp at d3
      have d4 := bk.cell 4; have f4 := bk.frozen 4
      simp at d4
      have d5 := bk.cell 5; have f5 := bk.frozen 5
      simp at d5
      refine Mix.wpMix_tail (by rfl) (fun K hK => ?_)
      go_wp2_with fail
      refine hK _ _ ?_
      clear hK K
      repeat (first | (refine Mix.wpMix_read (by rfl) ?_; go_big_quiet_step (fail); refine wpQuiet_nil ?_) | (refine Mix.wpMix_pure (by rfl) ?_; go_big_quiet_step (fail); refine wpQuiet_nil ?_))
      (refine Mix.wpMix_nil ?_; try simp only [Exit.then])
      go_wp2_with fail
      go_meet
      have bk2 := ((((((bk.set_ 0 (.int .i64 RR.1.1)).set_ 1 (.int .i64 RR.1.2.1)).set_ 2 (.int .i64 RR.1.2.2.1)).set_ 3 (.slice A84 n85 c86)).set_ 4 (.slice B88 m89 d90)).set_ 5 (.slice C92 k93 e94))
      have bk3 := bk2
      simp only [List.setIfInBounds_toArray, List.set_cons_succ, List.set_cons_zero] at bk3
      refine ⟨u4.heap.size, A84, n85, c86, its87, B88, m89, d90, jts91, C92, k93, e94, rfl, rfl, (by first | ((with_reducible refine Eq.trans (new_cell _ _ _ 0) ?_); rfl) | exact bk3.cell 0), (by first | ((with_reducible refine Eq.trans (new_cell _ _ _ 1) ?_); rfl) | exact bk3.cell 1), (by first | ((with_reducible refine Eq.trans (new_cell _ _ _ 2) ?_); rfl) | exact bk3.cell 2), (by first | ((with_reducible refine Eq.trans (new_cell _ _ _ 3) ?_); rfl) | exact bk3.cell 3), (by first | ((with_reducible refine Eq.trans (new_cell _ _ _ 4) ?_); rfl) | exact bk3.cell 4), (by first | ((with_reducible refine Eq.trans (new_cell _ _ _ 5) ?_); rfl) | exact bk3.cell 5), ?_, l97, ?_, ?_⟩
      · first | (with_reducible refine WrS.wider (q96.alloc _) ?_ ?_) | refine WrS.wider (WrS.set6 q96 ?_) ?_ (by simp)
        all_goals exact (by first | omega | exact Nat.le_refl _ | (simp; done) | (simp; omega))
      · exact (by first | omega | exact Nat.le_refl _ | (simp; done) | (simp; omega))
      · first | (with_reducible refine Below.alloc e0p ?_ _) | refine below_set6 e0 ?_
        exact (by first | omega | exact Nat.le_refl _ | (simp; done) | (simp; omega))
    case rest =>
      obtain ⟨g95, A84, n85, c86, its87, B88, m89, d90, jts91, C92, k93, e94, rfl, rfl, nc0, nc1, nc2, nc3, nc4, nc5, q96, l97, hgg95, hb'⟩ := hcut
      obtain ⟨w17, rfl⟩ : ∃ w17 : World, w17 = wc := ⟨_, rfl⟩
      have z17 := hb'.size
      have hlg95 : g95 < w17.heap.size := World.block_lt_of_cell? w17 _ nc0
      have c17_a0_0 : w17.cell? ⟨w.heap.size, 0, none⟩ = some (.int .i64 sy0) := keepc hb' c16_a0_0
      clear c16_a0_0 ac16_a0_0
      have c17_a0_1 : w17.cell? ⟨w.heap.size, 1, none⟩ = some (.int .i64 st0) := keepc hb' c16_a0_1
      clear c16_a0_1 ac16_a0_1
      have c17_a0_2 : w17.cell? ⟨w.heap.size, 2, none⟩ = some (.slice A0 n0 c0) := keepc hb' c16_a0_2
      clear c16_a0_2 ac16_a0_2
      have c17_a1_0 : w17.cell? ⟨(w.heap.size + 1), 0, none⟩ = some (.int .i64 st1) := keepc hb' c16_a1_0
      clear c16_a1_0 ac16_a1_0
      have c17_a1_1 : w17.cell? ⟨(w.heap.size + 1), 1, none⟩ = some (.int .i64 hd1) := keepc hb' c16_a1_1
      clear c16_a1_1 ac16_a1_1
      have c17_a1_2 : w17.cell? ⟨(w.heap.size + 1), 2, none⟩ = some (.int .i64 at1) := keepc hb' c16_a1_2
      clear c16_a1_2 ac16_a1_2
      have c17_a1_3 : w17.cell? ⟨(w.heap.size + 1), 3, none⟩ = some (.slice A1 n1 c1) := keepc hb' c16_a1_3
      clear c16_a1_3 ac16_a1_3
      have c17_a1_4 : w17.cell? ⟨(w.heap.size + 1), 4, none⟩ = some (.slice B1 m1 d1) := keepc hb' c16_a1_4
      clear c16_a1_4 ac16_a1_4
      have c17_a1_5 : w17.cell? ⟨(w.heap.size + 1), 5, none⟩ = some (.slice C1 k1 e1) := keepc hb' c16_a1_5
      clear c16_a1_5 ac16_a1_5
      have c17_o53_0 : w17.cell? ⟨g22, 0, none⟩ = some (.int .i64 RR.1.1) := keepc hb' c16_o53_0
      clear c16_o53_0 ac16_o53_0
      have c17_o53_1 : w17.cell? ⟨g22, 1, none⟩ = some (.int .i64 RR.1.2.1) := keepc hb' c16_o53_1
      clear c16_o53_1 ac16_o53_1
      have c17_o53_2 : w17.cell? ⟨g22, 2, none⟩ = some (.int .i64 RR.1.2.2.1) := keepc hb' c16_o53_2
      clear c16_o53_2 ac16_o53_2
      have c17_o53_3 : w17.cell? ⟨g22, 3, none⟩ = some (.slice A11 n12 c13) := keepc hb' c16_o53_3
      clear c16_o53_3 ac16_o53_3
      have c17_o53_4 : w17.cell? ⟨g22, 4, none⟩ = some (.slice B15 m16 d17) := keepc hb' c16_o53_4
      clear c16_o53_4 ac16_o53_4
      have c17_o53_5 : w17.cell? ⟨g22, 5, none⟩ = some (.slice C19 k20 e21) := keepc hb' c16_o53_5
      clear c16_o53_5 ac16_o53_5
      have c17_o55_0 : w17.cell? ⟨w4.heap.size, 0, none⟩ = some (.int .i64 sy0) := keepc hb' c16_o55_0
      clear c16_o55_0 ac16_o55_0
      have c17_o55_1 : w17.cell? ⟨w4.heap.size, 1, none⟩ = some (.int .i64 st0) := keepc hb' c16_o55_1
      clear c16_o55_1 ac16_o55_1
      have c17_o55_2 : w17.cell? ⟨w4.heap.size, 2, none⟩ = some (.slice (some ⟨g054, 0, none⟩) n0 n0) := keepc hb' c16_o55_2
      clear c16_o55_2 ac16_o55_2
      have c17_o61_0 : w17.cell? ⟨w5.heap.size, 0, none⟩ = some (.int .i64 st1) := keepc hb' c16_o61_0
      clear c16_o61_0 ac16_o61_0
      have c17_o61_1 : w17.cell? ⟨w5.heap.size, 1, none⟩ = some (.int .i64 hd1) := keepc hb' c16_o61_1
      clear c16_o61_1 ac16_o61_1
      have c17_o61_2 : w17.cell? ⟨w5.heap.size, 2, none⟩ = some (.int .i64 at1) := keepc hb' c16_o61_2
      clear c16_o61_2 ac16_o61_2
      have c17_o61_3 : w17.cell? ⟨w5.heap.size, 3, none⟩ = some (.slice (some ⟨g056, 0, none⟩) n1 n1) := keepc hb' c16_o61_3
      clear c16_o61_3 ac16_o61_3
      have c17_o61_4 : w17.cell? ⟨w5.heap.size, 4, none⟩ = some (.slice (some ⟨g158, 0, none⟩) m1 m1) := keepc hb' c16_o61_4
      clear c16_o61_4 ac16_o61_4
      have c17_o61_5 : w17.cell? ⟨w5.heap.size, 5, none⟩ = some (.slice (some ⟨g260, 0, none⟩) k1 k1) := keepc hb' c16_o61_5
      clear c16_o61_5 ac16_o61_5
      have c17_o75_0 : w17.cell? ⟨w6.heap.size, 0, none⟩ = some (.int .i64 RR.1.1) := keepc hb' c16_o75_0
      clear c16_o75_0 ac16_o75_0
      have c17_o75_1 : w17.cell? ⟨w6.heap.size, 1, none⟩ = some (.int .i64 RR.1.2.1) := keepc hb' c16_o75_1
      clear c16_o75_1 ac16_o75_1
      have c17_o75_2 : w17.cell? ⟨w6.heap.size, 2, none⟩ = some (.int .i64 RR.1.2.2.1) := keepc hb' c16_o75_2
      clear c16_o75_2 ac16_o75_2
      have c17_o75_3 : w17.cell? ⟨w6.heap.size, 3, none⟩ = some (.slice A62 n63 c64) := keepc hb' c16_o75_3
      clear c16_o75_3 ac16_o75_3
      have c17_o75_4 : w17.cell? ⟨w6.heap.size, 4, none⟩ = some (.slice B66 m67 d68) := keepc hb' c16_o75_4
      clear c16_o75_4 ac16_o75_4
      have c17_o75_5 : w17.cell? ⟨w6.heap.size, 5, none⟩ = some (.slice C70 k71 e72) := keepc hb' c16_o75_5
      clear c16_o75_5 ac16_o75_5
      have c17_o126_0 := nc0; clear nc0
      have c17_o126_1 := nc1; clear nc1
      have c17_o126_2 := nc2; clear nc2
      have c17_o126_3 := nc3; clear nc3
      have c17_o126_4 := nc4; clear nc4
      have c17_o126_5 := nc5; clear nc5
      have ac17_a0_0 := fun o => keepa o c17_a0_0
      have ac17_a0_1 := fun o => keepa o c17_a0_1
      have ac17_a0_2 := fun o => keepa o c17_a0_2
      have ac17_a1_0 := fun o => keepa o c17_a1_0
      have ac17_a1_1 := fun o => keepa o c17_a1_1
      have ac17_a1_2 := fun o => keepa o c17_a1_2
      have ac17_a1_3 := fun o => keepa o c17_a1_3
      have ac17_a1_4 := fun o => keepa o c17_a1_4
      have ac17_a1_5 := fun o => keepa o c17_a1_5
      have ac17_o53_0 := fun o => keepa o c17_o53_0
      have ac17_o53_1 := fun o => keepa o c17_o53_1
      have ac17_o53_2 := fun o => keepa o c17_o53_2
      have ac17_o53_3 := fun o => keepa o c17_o53_3
      have ac17_o53_4 := fun o => keepa o c17_o53_4
      have ac17_o53_5 := fun o => keepa o c17_o53_5
      have ac17_o55_0 := fun o => keepa o c17_o55_0
      have ac17_o55_1 := fun o => keepa o c17_o55_1
      have ac17_o55_2 := fun o => keepa o c17_o55_2
      have ac17_o61_0 := fun o => keepa o c17_o61_0
      have ac17_o61_1 := fun o => keepa o c17_o61_1
      have ac17_o61_2 := fun o => keepa o c17_o61_2
      have ac17_o61_3 := fun o => keepa o c17_o61_3
      have ac17_o61_4 := fun o => keepa o c17_o61_4
      have ac17_o61_5 := fun o => keepa o c17_o61_5
      have ac17_o75_0 := fun o => keepa o c17_o75_0
      have ac17_o75_1 := fun o => keepa o c17_o75_1
      have ac17_o75_2 := fun o => keepa o c17_o75_2
      have ac17_o75_3 := fun o => keepa o c17_o75_3
      have ac17_o75_4 := fun o => keepa o c17_o75_4
      have ac17_o75_5 := fun o => keepa o c17_o75_5
      have ac17_o126_0 := fun o => keepa o c17_o126_0
      have ac17_o126_1 := fun o => keepa o c17_o126_1
      have ac17_o126_2 := fun o => keepa o c17_o126_2
      have ac17_o126_3 := fun o => keepa o c17_o126_3
      have ac17_o126_4 := fun o => keepa o c17_o126_4
      have ac17_o126_5 := fun o => keepa o c17_o126_5
      have rP0 := P0.out.below hb'; clear P0; have P0 := Lib.hid rP0; clear rP0
      have rP1 := P1.out.below hb'; clear P1; have P1 := Lib.hid rP1; clear rP1
      have rFo53 := Fo53.out.below hb'; clear Fo53; have Fo53 := Lib.hid rFo53; clear rFo53
      have rFo55 := Fo55.out.below hb'; clear Fo55; have Fo55 := Lib.hid rFo55; clear rFo55
      have rFo61 := Fo61.out.below hb'; clear Fo61; have Fo61 := Lib.hid rFo61; clear rFo61
      have rFo75 := Fo75.out.below hb'; clear Fo75; have Fo75 := Lib.hid rFo75; clear rFo75
      have rB := below_chain B.out (by omega) hb'; clear B; have B := Lib.hid rB; clear rB hb'
      have Fo126 := Lib.hid q96; clear q96
      obtain ⟨ln_o126, ln_o126_1, ln_o126_2, bI0_o126, hs0_o126, bm0_o126, bI1_o126, hs1_o126, bm1_o126⟩ := l97
      have hI0_o126 := (fun t ht => Nat.le_trans (bI0_o126 t ht) (by omega) : ∀ t ∈ its87, t.n ≤ 1000000000); have hm0_o126 := Lib.hid bm0_o126; clear bI0_o126 bm0_o126
      have hI1_o126 := (fun t ht => Nat.le_trans (bI1_o126 t ht) (by omega) : ∀ t ∈ jts91, t.n ≤ 1000000000); have hm1_o126 := Lib.hid bm1_o126; clear bI1_o126 bm1_o126
      go_wp2_with fail
      refine (eqFormula_t _ _ _ _ _ _ _ _ _ _ _ _ _ _ _ _ _ _ _ _ _ _ _ _ _ _ _ (by exact (Fo126.out.rd)) (by exact (Fo53.out.rd)) (by omega) (by omega) (by omega) hI0_o126 (hm0_o126.out.trans hm0_o53.out.symm) hI1_o126 (hm1_o126.out.trans hm1_o53.out.symm)).mono ?_
      rintro e w18 ⟨rfl, hb⟩
      have hb' : Below w17.heap.size w17 w18 := (by first | (with_reducible exact hb) | (with_reducible exact up1 hb) | (with_reducible exact up2 hb) | (with_reducible exact up3 hb) | (with_reducible exact up4 hb) | (with_reducible exact below_of_drew hb) | (with_reducible exact below_of_drew (up1 hb)))
      have z18 := hb'.size
      have c18_a0_0 : w18.cell? ⟨w.heap.size, 0, none⟩ = some (.int .i64 sy0) := keepc hb' c17_a0_0
      clear c17_a0_0 ac17_a0_0
      have c18_a0_1 : w18.cell? ⟨w.heap.size, 1, none⟩ = some (.int .i64 st0) := keepc hb' c17_a0_1
      clear c17_a0_1 ac17_a0_1
      have c18_a0_2 : w18.cell? ⟨w.heap.size, 2, none⟩ = some (.slice A0 n0 c0) := keepc hb' c17_a0_2
      clear c17_a0_2 ac17_a0_2
      have c18_a1_0 : w18.cell? ⟨(w.heap.size + 1), 0, none⟩ = some (.int .i64 st1) := keepc hb' c17_a1_0
      clear c17_a1_0 ac17_a1_0
      have c18_a1_1 : w18.cell? ⟨(w.heap.size + 1), 1, none⟩ = some (.int .i64 hd1) := keepc hb' c17_a1_1
      clear c17_a1_1 ac17_a1_1
      have c18_a1_2 : w18.cell? ⟨(w.heap.size + 1), 2, none⟩ = some (.int .i64 at1) := keepc hb' c17_a1_2
      clear c17_a1_2 ac17_a1_2
      have c18_a1_3 : w18.cell? ⟨(w.heap.size + 1), 3, none⟩ = some (.slice A1 n1 c1) := keepc hb' c17_a1_3
      clear c17_a1_3 ac17_a1_3
      have c18_a1_4 : w18.cell? ⟨(w.heap.size + 1), 4, none⟩ = some (.slice B1 m1 d1) := keepc hb' c17_a1_4
      clear c17_a1_4 ac17_a1_4
      have c18_a1_5 : w18.cell? ⟨(w.heap.size + 1), 5, none⟩ = some (.slice C1 k1 e1) := keepc hb' c17_a1_5
      clear c17_a1_5 ac17_a1_5
      have c18_o53_0 : w18.cell? ⟨g22, 0, none⟩ = some (.int .i64 RR.1.1) := keepc hb' c17_o53_0
      clear c17_o53_0 ac17_o53_0
      have c18_o53_1 : w18.cell? ⟨g22, 1, none⟩ = some (.int .i64 RR.1.2.1) := keepc hb' c17_o53_1
      clear c17_o53_1 ac17_o53_1
      have c18_o53_2 : w18.cell? ⟨g22, 2, none⟩ = some (.int .i64 RR.1.2.2.1) := keepc hb' c17_o53_2
      clear c17_o53_2 ac17_o53_2
      have c18_o53_3 : w18.cell? ⟨g22, 3, none⟩ = some (.slice A11 n12 c13) := keepc hb' c17_o53_3
      clear c17_o53_3 ac17_o53_3
      have c18_o53_4 : w18.cell? ⟨g22, 4, none⟩ = some (.slice B15 m16 d17) := keepc hb' c17_o53_4
      clear c17_o53_4 ac17_o53_4
      have c18_o53_5 : w18.cell? ⟨g22, 5, none⟩ = some (.slice C19 k20 e21) := keepc hb' c17_o53_5
      clear c17_o53_5 ac17_o53_5
      have c18_o55_0 : w18.cell? ⟨w4.heap.size, 0, none⟩ = some (.int .i64 sy0) := keepc hb' c17_o55_0
      clear c17_o55_0 ac17_o55_0
      have c18_o55_1 : w18.cell? ⟨w4.heap.size, 1, none⟩ = some (.int .i64 st0) := keepc hb' c17_o55_1
      clear c17_o55_1 ac17_o55_1
      have c18_o55_2 : w18.cell? ⟨w4.heap.size, 2, none⟩ = some (.slice (some ⟨g054, 0, none⟩) n0 n0) := keepc hb' c17_o55_2
      clear c17_o55_2 ac17_o55_2
      have c18_o61_0 : w18.cell? ⟨w5.heap.size, 0, none⟩ = some (.int .i64 st1) := keepc hb' c17_o61_0
      clear c17_o61_0 ac17_o61_0
      have c18_o61_1 : w18.cell? ⟨w5.heap.size, 1, none⟩ = some (.int .i64 hd1) := keepc hb' c17_o61_1
      clear c17_o61_1 ac17_o61_1
      have c18_o61_2 : w18.cell? ⟨w5.heap.size, 2, none⟩ = some (.int .i64 at1) := keepc hb' c17_o61_2
      clear c17_o61_2 ac17_o61_2
      have c18_o61_3 : w18.cell? ⟨w5.heap.size, 3, none⟩ = some (.slice (some ⟨g056, 0, none⟩) n1 n1) := keepc hb' c17_o61_3
      clear c17_o61_3 ac17_o61_3
      have c18_o61_4 : w18.cell? ⟨w5.heap.size, 4, none⟩ = some (.slice (some ⟨g158, 0, none⟩) m1 m1) := keepc hb' c17_o61_4
      clear c17_o61_4 ac17_o61_4
      have c18_o61_5 : w18.cell? ⟨w5.heap.size, 5, none⟩ = some (.slice (some ⟨g260, 0, none⟩) k1 k1) := keepc hb' c17_o61_5
      clear c17_o61_5 ac17_o61_5
      have c18_o75_0 : w18.cell? ⟨w6.heap.size, 0, none⟩ = some (.int .i64 RR.1.1) := keepc hb' c17_o75_0
      clear c17_o75_0 ac17_o75_0
      have c18_o75_1 : w18.cell? ⟨w6.heap.size, 1, none⟩ = some (.int .i64 RR.1.2.1) := keepc hb' c17_o75_1
      clear c17_o75_1 ac17_o75_1
      have c18_o75_2 : w18.cell? ⟨w6.heap.size, 2, none⟩ = some (.int .i64 RR.1.2.2.1) := keepc hb' c17_o75_2
      clear c17_o75_2 ac17_o75_2
      have c18_o75_3 : w18.cell? ⟨w6.heap.size, 3, none⟩ = some (.slice A62 n63 c64) := keepc hb' c17_o75_3
      clear c17_o75_3 ac17_o75_3
      have c18_o75_4 : w18.cell? ⟨w6.heap.size, 4, none⟩ = some (.slice B66 m67 d68) := keepc hb' c17_o75_4
      clear c17_o75_4 ac17_o75_4
      have c18_o75_5 : w18.cell? ⟨w6.heap.size, 5, none⟩ = some (.slice C70 k71 e72) := keepc hb' c17_o75_5
      clear c17_o75_5 ac17_o75_5
      have c18_o126_0 : w18.cell? ⟨g95, 0, none⟩ = some (.int .i64 RR.1.1) := keepc hb' c17_o126_0
      clear c17_o126_0 ac17_o126_0
      have c18_o126_1 : w18.cell? ⟨g95, 1, none⟩ = some (.int .i64 RR.1.2.1) := keepc hb' c17_o126_1
      clear c17_o126_1 ac17_o126_1
      have c18_o126_2 : w18.cell? ⟨g95, 2, none⟩ = some (.int .i64 RR.1.2.2.1) := keepc hb' c17_o126_2
      clear c17_o126_2 ac17_o126_2
      have c18_o126_3 : w18.cell? ⟨g95, 3, none⟩ = some (.slice A84 n85 c86) := keepc hb' c17_o126_3
      clear c17_o126_3 ac17_o126_3
      have c18_o126_4 : w18.cell? ⟨g95, 4, none⟩ = some (.slice B88 m89 d90) := keepc hb' c17_o126_4
      clear c17_o126_4 ac17_o126_4
      have c18_o126_5 : w18.cell? ⟨g95, 5, none⟩ = some (.slice C92 k93 e94) := keepc hb' c17_o126_5
      clear c17_o126_5 ac17_o126_5
      have ac18_a0_0 := fun o => keepa o c18_a0_0
      have ac18_a0_1 := fun o => keepa o c18_a0_1
      have ac18_a0_2 := fun o => keepa o c18_a0_2
      have ac18_a1_0 := fun o => keepa o c18_a1_0
      have ac18_a1_1 := fun o => keepa o c18_a1_1
      have ac18_a1_2 := fun o => keepa o c18_a1_2
      have ac18_a1_3 := fun o => keepa o c18_a1_3
      have ac18_a1_4 := fun o => keepa o c18_a1_4
      have ac18_a1_5 := fun o => keepa o c18_a1_5
      have ac18_o53_0 := fun o => keepa o c18_o53_0
      have ac18_o53_1 := fun o => keepa o c18_o53_1
      have ac18_o53_2 := fun o => keepa o c18_o53_2
      have ac18_o53_3 := fun o => keepa o c18_o53_3
      have ac18_o53_4 := fun o => keepa o c18_o53_4
      have ac18_o53_5 := fun o => keepa o c18_o53_5
      have ac18_o55_0 := fun o => keepa o c18_o55_0
      have ac18_o55_1 := fun o => keepa o c18_o55_1
      have ac18_o55_2 := fun o => keepa o c18_o55_2
      have ac18_o61_0 := fun o => keepa o c18_o61_0
      have ac18_o61_1 := fun o => keepa o c18_o61_1
      have ac18_o61_2 := fun o => keepa o c18_o61_2
      have ac18_o61_3 := fun o => keepa o c18_o61_3
      have ac18_o61_4 := fun o => keepa o c18_o61_4
      have ac18_o61_5 := fun o => keepa o c18_o61_5
      have ac18_o75_0 := fun o => keepa o c18_o75_0
      have ac18_o75_1 := fun o => keepa o c18_o75_1
      have ac18_o75_2 := fun o => keepa o c18_o75_2
      have ac18_o75_3 := fun o => keepa o c18_o75_3
      have ac18_o75_4 := fun o => keepa o c18_o75_4
      have ac18_o75_5 := fun o => keepa o c18_o75_5
      have ac18_o126_0 := fun o => keepa o c18_o126_0
      have ac18_o126_1 := fun o => keepa o c18_o126_1
      have ac18_o126_2 := fun o => keepa o c18_o126_2
      have ac18_o126_3 := fun o => keepa o c18_o126_3
      have ac18_o126_4 := fun o => keepa o c18_o126_4
      have ac18_o126_5 := fun o => keepa o c18_o126_5
      have rP0 := P0.out.below hb'; clear P0; have P0 := Lib.hid rP0; clear rP0
      have rP1 := P1.out.below hb'; clear P1; have P1 := Lib.hid rP1; clear rP1
      have rFo53 := Fo53.out.below hb'; clear Fo53; have Fo53 := Lib.hid rFo53; clear rFo53
      have rFo55 := Fo55.out.below hb'; clear Fo55; have Fo55 := Lib.hid rFo55; clear rFo55
      have rFo61 := Fo61.out.below hb'; clear Fo61; have Fo61 := Lib.hid rFo61; clear rFo61
      have rFo75 := Fo75.out.below hb'; clear Fo75; have Fo75 := Lib.hid rFo75; clear rFo75
      have rFo126 := Fo126.out.below hb'; clear Fo126; have Fo126 := Lib.hid rFo126; clear rFo126
      have rB := below_chain B.out (by omega) hb'; clear B; have B := Lib.hid rB; clear rB
      clear hb hb'
      go_wp2_with fail
      refine (heldFormula_c _ _ _ _ _ _ _ _ _ _ _ _ _ _ _ _ _ (by exact (Fo75.out.rd)) (by omega) (by omega) (by omega) hI0_o75 (by omega) hI1_o75 (by omega) (by omega) (by omega)).mono ?_
      rintro e w19 ⟨rfl, hb⟩
      have hb' : Below w18.heap.size w18 w19 := (by first | (with_reducible exact hb) | (with_reducible exact up1 hb) | (with_reducible exact up2 hb) | (with_reducible exact up3 hb) | (with_reducible exact up4 hb) | (with_reducible exact below_of_drew hb) | (with_reducible exact below_of_drew (up1 hb)))
      have z19 := hb'.size
      have c19_a0_0 : w19.cell? ⟨w.heap.size, 0, none⟩ = some (.int .i64 sy0) := keepc hb' c18_a0_0
      clear c18_a0_0 ac18_a0_0
      have c19_a0_1 : w19.cell? ⟨w.heap.size, 1, none⟩ = some (.int .i64 st0) := keepc hb' c18_a0_1
      clear c18_a0_1 ac18_a0_1
      have c19_a0_2 : w19.cell? ⟨w.heap.size, 2, none⟩ = some (.slice A0 n0 c0) := keepc hb' c18_a0_2
      clear c18_a0_2 ac18_a0_2
      have c19_a1_0 : w19.cell? ⟨(w.heap.size + 1), 0, none⟩ = some (.int .i64 st1) := keepc hb' c18_a1_0
      clear c18_a1_0 ac18_a1_0
      have c19_a1_1 : w19.cell? ⟨(w.heap.size + 1), 1, none⟩ = some (.int .i64 hd1) := keepc hb' c18_a1_1
      clear c18_a1_1 ac18_a1_1
      have c19_a1_2 : w19.cell? ⟨(w.heap.size + 1), 2, none⟩ = some (.int .i64 at1) := keepc hb' c18_a1_2
      clear c18_a1_2 ac18_a1_2
      have c19_a1_3 : w19.cell? ⟨(w.heap.size + 1), 3, none⟩ = some (.slice A1 n1 c1) := keepc hb' c18_a1_3
      clear c18_a1_3 ac18_a1_3
      have c19_a1_4 : w19.cell? ⟨(w.heap.size + 1), 4, none⟩ = some (.slice B1 m1 d1) := keepc hb' c18_a1_4
      clear c18_a1_4 ac18_a1_4
      have c19_a1_5 : w19.cell? ⟨(w.heap.size + 1), 5, none⟩ = some (.slice C1 k1 e1) := keepc hb' c18_a1_5
      clear c18_a1_5 ac18_a1_5
      have c19_o53_0 : w19.cell? ⟨g22, 0, none⟩ = some (.int .i64 RR.1.1) := keepc hb' c18_o53_0
      clear c18_o53_0 ac18_o53_0
      have c19_o53_1 : w19.cell? ⟨g22, 1, none⟩ = some (.int .i64 RR.1.2.1) := keepc hb' c18_o53_1
      clear c18_o53_1 ac18_o53_1
      have c19_o53_2 : w19.cell? ⟨g22, 2, none⟩ = some (.int .i64 RR.1.2.2.1) := keepc hb' c18_o53_2
      clear c18_o53_2 ac18_o53_2
      have c19_o53_3 : w19.cell? ⟨g22, 3, none⟩ = some (.slice A11 n12 c13) := keepc hb' c18_o53_3
      clear c18_o53_3 ac18_o53_3
      have c19_o53_4 : w19.cell? ⟨g22, 4, none⟩ = some (.slice B15 m16 d17) := keepc hb' c18_o53_4
      clear c18_o53_4 ac18_o53_4
      have c19_o53_5 : w19.cell? ⟨g22, 5, none⟩ = some (.slice C19 k20 e21) := keepc hb' c18_o53_5
      clear c18_o53_5 ac18_o53_5
      have c19_o55_0 : w19.cell? ⟨w4.heap.size, 0, none⟩ = some (.int .i64 sy0) := keepc hb' c18_o55_0
      clear c18_o55_0 ac18_o55_0
      have c19_o55_1 : w19.cell? ⟨w4.heap.size, 1, none⟩ = some (.int .i64 st0) := keepc hb' c18_o55_1
      clear c18_o55_1 ac18_o55_1
      have c19_o55_2 : w19.cell? ⟨w4.heap.size, 2, none⟩ = some (.slice (some ⟨g054, 0, none⟩) n0 n0) := keepc hb' c18_o55_2
      clear c18_o55_2 ac18_o55_2
      have c19_o61_0 : w19.cell? ⟨w5.heap.size, 0, none⟩ = some (.int .i64 st1) := keepc hb' c18_o61_0
      clear c18_o61_0 ac18_o61_0
      have c19_o61_1 : w19.cell? ⟨w5.heap.size, 1, none⟩ = some (.int .i64 hd1) := keepc hb' c18_o61_1
      clear c18_o61_1 ac18_o61_1
      have c19_o61_2 : w19.cell? ⟨w5.heap.size, 2, none⟩ = some (.int .i64 at1) := keepc hb' c18_o61_2
      clear c18_o61_2 ac18_o61_2
      have c19_o61_3 : w19.cell? ⟨w5.heap.size, 3, none⟩ = some (.slice (some ⟨g056, 0, none⟩) n1 n1) := keepc hb' c18_o61_3
      clear c18_o61_3 ac18_o61_3
      have c19_o61_4 : w19.cell? ⟨w5.heap.size, 4, none⟩ = some (.slice (some ⟨g158, 0, none⟩) m1 m1) := keepc hb' c18_o61_4
      clear c18_o61_4 ac18_o61_4
      have c19_o61_5 : w19.cell? ⟨w5.heap.size, 5, none⟩ = some (.slice (some ⟨g260, 0, none⟩) k1 k1) := keepc hb' c18_o61_5
      clear c18_o61_5 ac18_o61_5
      have c19_o75_0 : w19.cell? ⟨w6.heap.size, 0, none⟩ = some (.int .i64 RR.1.1) := keepc hb' c18_o75_0
      clear c18_o75_0 ac18_o75_0
      have c19_o75_1 : w19.cell? ⟨w6.heap.size, 1, none⟩ = some (.int .i64 RR.1.2.1) := keepc hb' c18_o75_1
      clear c18_o75_1 ac18_o75_1
      have c19_o75_2 : w19.cell? ⟨w6.heap.size, 2, none⟩ = some (.int .i64 RR.1.2.2.1) := keepc hb' c18_o75_2
      clear c18_o75_2 ac18_o75_2
      have c19_o75_3 : w19.cell? ⟨w6.heap.size, 3, none⟩ = some (.slice A62 n63 c64) := keepc hb' c18_o75_3
      clear c18_o75_3 ac18_o75_3
      have c19_o75_4 : w19.cell? ⟨w6.heap.size, 4, none⟩ = some (.slice B66 m67 d68) := keepc hb' c18_o75_4
      clear c18_o75_4 ac18_o75_4
      have c19_o75_5 : w19.cell? ⟨w6.heap.size, 5, none⟩ = some (.slice C70 k71 e72) := keepc hb' c18_o75_5
      clear c18_o75_5 ac18_o75_5
      have c19_o126_0 : w19.cell? ⟨g95, 0, none⟩ = some (.int .i64 RR.1.1) := keepc hb' c18_o126_0
      clear c18_o126_0 ac18_o126_0
      have c19_o126_1 : w19.cell? ⟨g95, 1, none⟩ = some (.int .i64 RR.1.2.1) := keepc hb' c18_o126_1
      clear c18_o126_1 ac18_o126_1
      have c19_o126_2 : w19.cell? ⟨g95, 2, none⟩ = some (.int .i64 RR.1.2.2.1) := keepc hb' c18_o126_2
      clear c18_o126_2 ac18_o126_2
      have c19_o126_3 : w19.cell? ⟨g95, 3, none⟩ = some (.slice A84 n85 c86) := keepc hb' c18_o126_3
      clear c18_o126_3 ac18_o126_3
      have c19_o126_4 : w19.cell? ⟨g95, 4, none⟩ = some (.slice B88 m89 d90) := keepc hb' c18_o126_4
      clear c18_o126_4 ac18_o126_4
      have c19_o126_5 : w19.cell? ⟨g95, 5, none⟩ = some (.slice C92 k93 e94) := keepc hb' c18_o126_5
      clear c18_o126_5 ac18_o126_5
      have ac19_a0_0 := fun o => keepa o c19_a0_0
      have ac19_a0_1 := fun o => keepa o c19_a0_1
      have ac19_a0_2 := fun o => keepa o c19_a0_2
      have ac19_a1_0 := fun o => keepa o c19_a1_0
      have ac19_a1_1 := fun o => keepa o c19_a1_1
      have ac19_a1_2 := fun o => keepa o c19_a1_2
      have ac19_a1_3 := fun o => keepa o c19_a1_3
      have ac19_a1_4 := fun o => keepa o c19_a1_4
      have ac19_a1_5 := fun o => keepa o c19_a1_5
      have ac19_o53_0 := fun o => keepa o c19_o53_0
      have ac19_o53_1 := fun o => keepa o c19_o53_1
      have ac19_o53_2 := fun o => keepa o c19_o53_2
      have ac19_o53_3 := fun o => keepa o c19_o53_3
      have ac19_o53_4 := fun o => keepa o c19_o53_4
      have ac19_o53_5 := fun o => keepa o c19_o53_5
      have ac19_o55_0 := fun o => keepa o c19_o55_0
      have ac19_o55_1 := fun o => keepa o c19_o55_1
      have ac19_o55_2 := fun o => keepa o c19_o55_2
      have ac19_o61_0 := fun o => keepa o c19_o61_0
      have ac19_o61_1 := fun o => keepa o c19_o61_1
      have ac19_o61_2 := fun o => keepa o c19_o61_2
      have ac19_o61_3 := fun o => keepa o c19_o61_3
      have ac19_o61_4 := fun o => keepa o c19_o61_4
      have ac19_o61_5 := fun o => keepa o c19_o61_5
      have ac19_o75_0 := fun o => keepa o c19_o75_0
      have ac19_o75_1 := fun o => keepa o c19_o75_1
      have ac19_o75_2 := fun o => keepa o c19_o75_2
      have ac19_o75_3 := fun o => keepa o c19_o75_3
      have ac19_o75_4 := fun o => keepa o c19_o75_4
      have ac19_o75_5 := fun o => keepa o c19_o75_5
      have ac19_o126_0 := fun o => keepa o c19_o126_0
      have ac19_o126_1 := fun o => keepa o c19_o126_1
      have ac19_o126_2 := fun o => keepa o c19_o126_2
      have ac19_o126_3 := fun o => keepa o c19_o126_3
      have ac19_o126_4 := fun o => keepa o c19_o126_4
      have ac19_o126_5 := fun o => keepa o c19_o126_5
      have rP0 := P0.out.below hb'; clear P0; have P0 := Lib.hid rP0; clear rP0
      have rP1 := P1.out.below hb'; clear P1; have P1 := Lib.hid rP1; clear rP1
      have rFo53 := Fo53.out.below hb'; clear Fo53; have Fo53 := Lib.hid rFo53; clear rFo53
      have rFo55 := Fo55.out.below hb'; clear Fo55; have Fo55 := Lib.hid rFo55; clear rFo55
      have rFo61 := Fo61.out.below hb'; clear Fo61; have Fo61 := Lib.hid rFo61; clear rFo61
      have rFo75 := Fo75.out.below hb'; clear Fo75; have Fo75 := Lib.hid rFo75; clear rFo75
      have rFo126 := Fo126.out.below hb'; clear Fo126; have Fo126 := Lib.hid rFo126; clear rFo126
      have rB := below_chain B.out (by omega) hb'; clear B; have B := Lib.hid rB; clear rB
      clear hb hb'
      go_wp2
      go_ret
      exact ⟨rfl, B.out⟩
end Go.Proofs.Ytmmgejnhfpfmnaa
