/-
  FnExactFormulaAt returns true for every input: its walk, out of the contracts.
-/
import Derived.Test.YtmmgejnhfpfmnaaLawMachine
import Derived.Test.YtmmgejnhfpfmnaaLawFormula
import Derived.Test.YtmmgejnhfpfmnaaLawI
import Derived.Test.YtmmgejnhfpfmnaaLawConfig
import Derived.Test.YtmmgejnhfpfmnaaC27j
import Derived.Test.YtmmgejnhfpfmnaaMixF
import Derived.Test.YtmmgejnhfpfmnaaOpen
import Derived.Deep.DeepCutAuto
namespace Go.Proofs.Ytmmgejnhfpfmnaa
open Go.RowKit

set_option maxHeartbeats 4000000 in
set_option maxRecDepth 100000 in
theorem walkFormulaAt (sy0 : Int) (st0 : Int) (A0 : Option Addr) (n0 : Nat) (c0 : Nat) (xs0 : List (Int × Int × Int)) (st1 : Int) (hd1 : Int) (at1 : Int) (A1 : Option Addr) (n1 : Nat) (c1 : Nat) (its1 : List It) (B1 : Option Addr) (m1 : Nat) (d1 : Nat) (jts1 : List It) (C1 : Option Addr) (k1 : Nat) (e1 : Nat) (xs1 : List Int) (A2 : Option Addr) (n2 : Nat) (c2 : Nat) (xs2 : List Int) (w : World) (h0 : RdS w [sgX enc3 3 A0 n0 xs0]) (hb0_0 : n0 ≤ 9223372036854775807) (_o0 : i64ok sy0) (_p0 : i64ok st0) (_oo0 : ∀ x ∈ xs0, i64ok x.1 ∧ i64ok x.2.1 ∧ i64ok x.2.2) (h1 : RdS w (sgII A1 n1 its1 ++ sgII B1 m1 jts1 ++ [sgI C1 k1 xs1])) (hb1_0 : n1 ≤ 9223372036854775807) (hb1_1 : m1 ≤ 9223372036854775807) (hb1_2 : k1 ≤ 9223372036854775807) (hj1_0 : ∀ t ∈ its1, t.n ≤ 9223372036854775807) (hj1_1 : ∀ t ∈ jts1, t.n ≤ 9223372036854775807) (_o1 : i64ok st1) (_p1 : i64ok hd1) (_q1 : i64ok at1) (_oo1 : ∀ x ∈ xs1, i64ok x) (h2 : RdI w A2 n2 xs2) (hb2 : n2 ≤ 9223372036854775807) (_oo2 : ∀ x ∈ xs2, i64ok x) :
    Calls Try.prog 5 #[.agg #[.int .i64 sy0, .int .i64 st0, .slice A0 n0 c0], .agg #[.int .i64 st1, .int .i64 hd1, .int .i64 at1, .slice A1 n1 c1, .slice B1 m1 d1, .slice C1 k1 e1], .slice A2 n2 c2] w fun e w' => e = .returned (.bool true) ∧ Below w.heap.size w w' := by
  have P0 := Lib.hid (RdSU.mk' h0); clear h0
  have P1 := Lib.hid (RdSU.mk' h1); clear h1
  have P2 := Lib.hid (RdU.mk' h2); clear h2
  by_cases hsa2 : 1048576 < n2
  · go_enter Try.func5, Try.ntmps5
    go_wp2
    go_ret
    exact ⟨rfl, (by first | exact below_size.alloc (Nat.le_refl _) _ | exact (below_size.alloc (Nat.le_refl _) _).alloc (by simp) _ | exact ((below_size.alloc (Nat.le_refl _) _).alloc (by simp) _).alloc (by simp; omega) _)⟩
  go_enter Try.func5, Try.ntmps5
  go_wp2_with fail
  refine (szMachine_c _ _ _ _ _ xs0 _ _ hb0_0 (by omega) (by omega)).mono ?_
  rintro e w1 ⟨rfl, hb⟩
  have hb' : Below w.heap.size w w1 := (by first | (with_reducible exact hb) | (with_reducible exact up1 hb) | (with_reducible exact up2 hb) | (with_reducible exact up3 hb) | (with_reducible exact up4 hb) | (with_reducible exact below_of_drew hb) | (with_reducible exact below_of_drew (up1 hb)))
  have z1 := hb'.size
  have c1_a0_0 : w1.cell? ⟨w.heap.size, 0, none⟩ = some (.int .i64 sy0) := keepc hb (by first | (simp; done) | (rw [World.cell?_alloc_past _ _ _ (by simp <;> omega)]; simp; done) | (rw [World.cell?_alloc_past _ _ _ (by simp <;> omega), World.cell?_alloc_past _ _ _ (by simp <;> omega)]; simp; done) | (rw [World.cell?_alloc_past _ _ _ (by simp <;> omega), World.cell?_alloc_past _ _ _ (by simp <;> omega), World.cell?_alloc_past _ _ _ (by simp <;> omega)]; simp; done) | (rw [World.cell?_alloc_at _ _ _ _ (by simp)]; simp; done) | (rw [World.cell?_alloc_past _ _ _ (by simp <;> omega), World.cell?_alloc_at _ _ _ _ (by simp)]; simp; done) | (rw [World.cell?_alloc_past _ _ _ (by simp <;> omega), World.cell?_alloc_past _ _ _ (by simp <;> omega), World.cell?_alloc_at _ _ _ _ (by simp)]; simp; done) | (rw [World.cell?_alloc_past _ _ _ (by simp <;> omega), World.cell?_alloc_past _ _ _ (by simp <;> omega), World.cell?_alloc_past _ _ _ (by simp <;> omega), World.cell?_alloc_at _ _ _ _ (by simp)]; simp; done))
  have hl_c1_a0_0 : w.heap.size < w1.heap.size := World.block_lt_of_cell? w1 _ c1_a0_0
  have c1_a0_1 : w1.cell? ⟨w.heap.size, 1, none⟩ = some (.int .i64 st0) := keepc hb (by first | (simp; done) | (rw [World.cell?_alloc_past _ _ _ (by simp <;> omega)]; simp; done) | (rw [World.cell?_alloc_past _ _ _ (by simp <;> omega), World.cell?_alloc_past _ _ _ (by simp <;> omega)]; simp; done) | (rw [World.cell?_alloc_past _ _ _ (by simp <;> omega), World.cell?_alloc_past _ _ _ (by simp <;> omega), World.cell?_alloc_past _ _ _ (by simp <;> omega)]; simp; done) | (rw [World.cell?_alloc_at _ _ _ _ (by simp)]; simp; done) | (rw [World.cell?_alloc_past _ _ _ (by simp <;> omega), World.cell?_alloc_at _ _ _ _ (by simp)]; simp; done) | (rw [World.cell?_alloc_past _ _ _ (by simp <;> omega), World.cell?_alloc_past _ _ _ (by simp <;> omega), World.cell?_alloc_at _ _ _ _ (by simp)]; simp; done) | (rw [World.cell?_alloc_past _ _ _ (by simp <;> omega), World.cell?_alloc_past _ _ _ (by simp <;> omega), World.cell?_alloc_past _ _ _ (by simp <;> omega), World.cell?_alloc_at _ _ _ _ (by simp)]; simp; done))
  have c1_a0_2 : w1.cell? ⟨w.heap.size, 2, none⟩ = some (.slice A0 n0 c0) := keepc hb (by first | (simp; done) | (rw [World.cell?_alloc_past _ _ _ (by simp <;> omega)]; simp; done) | (rw [World.cell?_alloc_past _ _ _ (by simp <;> omega), World.cell?_alloc_past _ _ _ (by simp <;> omega)]; simp; done) | (rw [World.cell?_alloc_past _ _ _ (by simp <;> omega), World.cell?_alloc_past _ _ _ (by simp <;> omega), World.cell?_alloc_past _ _ _ (by simp <;> omega)]; simp; done) | (rw [World.cell?_alloc_at _ _ _ _ (by simp)]; simp; done) | (rw [World.cell?_alloc_past _ _ _ (by simp <;> omega), World.cell?_alloc_at _ _ _ _ (by simp)]; simp; done) | (rw [World.cell?_alloc_past _ _ _ (by simp <;> omega), World.cell?_alloc_past _ _ _ (by simp <;> omega), World.cell?_alloc_at _ _ _ _ (by simp)]; simp; done) | (rw [World.cell?_alloc_past _ _ _ (by simp <;> omega), World.cell?_alloc_past _ _ _ (by simp <;> omega), World.cell?_alloc_past _ _ _ (by simp <;> omega), World.cell?_alloc_at _ _ _ _ (by simp)]; simp; done))
  have c1_a1_0 : w1.cell? ⟨(w.heap.size + 1), 0, none⟩ = some (.int .i64 st1) := keepc hb (by first | (simp; done) | (rw [World.cell?_alloc_past _ _ _ (by simp <;> omega)]; simp; done) | (rw [World.cell?_alloc_past _ _ _ (by simp <;> omega), World.cell?_alloc_past _ _ _ (by simp <;> omega)]; simp; done) | (rw [World.cell?_alloc_past _ _ _ (by simp <;> omega), World.cell?_alloc_past _ _ _ (by simp <;> omega), World.cell?_alloc_past _ _ _ (by simp <;> omega)]; simp; done) | (rw [World.cell?_alloc_at _ _ _ _ (by simp)]; simp; done) | (rw [World.cell?_alloc_past _ _ _ (by simp <;> omega), World.cell?_alloc_at _ _ _ _ (by simp)]; simp; done) | (rw [World.cell?_alloc_past _ _ _ (by simp <;> omega), World.cell?_alloc_past _ _ _ (by simp <;> omega), World.cell?_alloc_at _ _ _ _ (by simp)]; simp; done) | (rw [World.cell?_alloc_past _ _ _ (by simp <;> omega), World.cell?_alloc_past _ _ _ (by simp <;> omega), World.cell?_alloc_past _ _ _ (by simp <;> omega), World.cell?_alloc_at _ _ _ _ (by simp)]; simp; done))
  have hl_c1_a1_0 : (w.heap.size + 1) < w1.heap.size := World.block_lt_of_cell? w1 _ c1_a1_0
  have c1_a1_1 : w1.cell? ⟨(w.heap.size + 1), 1, none⟩ = some (.int .i64 hd1) := keepc hb (by first | (simp; done) | (rw [World.cell?_alloc_past _ _ _ (by simp <;> omega)]; simp; done) | (rw [World.cell?_alloc_past _ _ _ (by simp <;> omega), World.cell?_alloc_past _ _ _ (by simp <;> omega)]; simp; done) | (rw [World.cell?_alloc_past _ _ _ (by simp <;> omega), World.cell?_alloc_past _ _ _ (by simp <;> omega), World.cell?_alloc_past _ _ _ (by simp <;> omega)]; simp; done) | (rw [World.cell?_alloc_at _ _ _ _ (by simp)]; simp; done) | (rw [World.cell?_alloc_past _ _ _ (by simp <;> omega), World.cell?_alloc_at _ _ _ _ (by simp)]; simp; done) | (rw [World.cell?_alloc_past _ _ _ (by simp <;> omega), World.cell?_alloc_past _ _ _ (by simp <;> omega), World.cell?_alloc_at _ _ _ _ (by simp)]; simp; done) | (rw [World.cell?_alloc_past _ _ _ (by simp <;> omega), World.cell?_alloc_past _ _ _ (by simp <;> omega), World.cell?_alloc_past _ _ _ (by simp <;> omega), World.cell?_alloc_at _ _ _ _ (by simp)]; simp; done))
  have c1_a1_2 : w1.cell? ⟨(w.heap.size + 1), 2, none⟩ = some (.int .i64 at1) := keepc hb (by first | (simp; done) | (rw [World.cell?_alloc_past _ _ _ (by simp <;> omega)]; simp; done) | (rw [World.cell?_alloc_past _ _ _ (by simp <;> omega), World.cell?_alloc_past _ _ _ (by simp <;> omega)]; simp; done) | (rw [World.cell?_alloc_past _ _ _ (by simp <;> omega), World.cell?_alloc_past _ _ _ (by simp <;> omega), World.cell?_alloc_past _ _ _ (by simp <;> omega)]; simp; done) | (rw [World.cell?_alloc_at _ _ _ _ (by simp)]; simp; done) | (rw [World.cell?_alloc_past _ _ _ (by simp <;> omega), World.cell?_alloc_at _ _ _ _ (by simp)]; simp; done) | (rw [World.cell?_alloc_past _ _ _ (by simp <;> omega), World.cell?_alloc_past _ _ _ (by simp <;> omega), World.cell?_alloc_at _ _ _ _ (by simp)]; simp; done) | (rw [World.cell?_alloc_past _ _ _ (by simp <;> omega), World.cell?_alloc_past _ _ _ (by simp <;> omega), World.cell?_alloc_past _ _ _ (by simp <;> omega), World.cell?_alloc_at _ _ _ _ (by simp)]; simp; done))
  have c1_a1_3 : w1.cell? ⟨(w.heap.size + 1), 3, none⟩ = some (.slice A1 n1 c1) := keepc hb (by first | (simp; done) | (rw [World.cell?_alloc_past _ _ _ (by simp <;> omega)]; simp; done) | (rw [World.cell?_alloc_past _ _ _ (by simp <;> omega), World.cell?_alloc_past _ _ _ (by simp <;> omega)]; simp; done) | (rw [World.cell?_alloc_past _ _ _ (by simp <;> omega), World.cell?_alloc_past _ _ _ (by simp <;> omega), World.cell?_alloc_past _ _ _ (by simp <;> omega)]; simp; done) | (rw [World.cell?_alloc_at _ _ _ _ (by simp)]; simp; done) | (rw [World.cell?_alloc_past _ _ _ (by simp <;> omega), World.cell?_alloc_at _ _ _ _ (by simp)]; simp; done) | (rw [World.cell?_alloc_past _ _ _ (by simp <;> omega), World.cell?_alloc_past _ _ _ (by simp <;> omega), World.cell?_alloc_at _ _ _ _ (by simp)]; simp; done) | (rw [World.cell?_alloc_past _ _ _ (by simp <;> omega), World.cell?_alloc_past _ _ _ (by simp <;> omega), World.cell?_alloc_past _ _ _ (by simp <;> omega), World.cell?_alloc_at _ _ _ _ (by simp)]; simp; done))
  have c1_a1_4 : w1.cell? ⟨(w.heap.size + 1), 4, none⟩ = some (.slice B1 m1 d1) := keepc hb (by first | (simp; done) | (rw [World.cell?_alloc_past _ _ _ (by simp <;> omega)]; simp; done) | (rw [World.cell?_alloc_past _ _ _ (by simp <;> omega), World.cell?_alloc_past _ _ _ (by simp <;> omega)]; simp; done) | (rw [World.cell?_alloc_past _ _ _ (by simp <;> omega), World.cell?_alloc_past _ _ _ (by simp <;> omega), World.cell?_alloc_past _ _ _ (by simp <;> omega)]; simp; done) | (rw [World.cell?_alloc_at _ _ _ _ (by simp)]; simp; done) | (rw [World.cell?_alloc_past _ _ _ (by simp <;> omega), World.cell?_alloc_at _ _ _ _ (by simp)]; simp; done) | (rw [World.cell?_alloc_past _ _ _ (by simp <;> omega), World.cell?_alloc_past _ _ _ (by simp <;> omega), World.cell?_alloc_at _ _ _ _ (by simp)]; simp; done) | (rw [World.cell?_alloc_past _ _ _ (by simp <;> omega), World.cell?_alloc_past _ _ _ (by simp <;> omega), World.cell?_alloc_past _ _ _ (by simp <;> omega), World.cell?_alloc_at _ _ _ _ (by simp)]; simp; done))
  have c1_a1_5 : w1.cell? ⟨(w.heap.size + 1), 5, none⟩ = some (.slice C1 k1 e1) := keepc hb (by first | (simp; done) | (rw [World.cell?_alloc_past _ _ _ (by simp <;> omega)]; simp; done) | (rw [World.cell?_alloc_past _ _ _ (by simp <;> omega), World.cell?_alloc_past _ _ _ (by simp <;> omega)]; simp; done) | (rw [World.cell?_alloc_past _ _ _ (by simp <;> omega), World.cell?_alloc_past _ _ _ (by simp <;> omega), World.cell?_alloc_past _ _ _ (by simp <;> omega)]; simp; done) | (rw [World.cell?_alloc_at _ _ _ _ (by simp)]; simp; done) | (rw [World.cell?_alloc_past _ _ _ (by simp <;> omega), World.cell?_alloc_at _ _ _ _ (by simp)]; simp; done) | (rw [World.cell?_alloc_past _ _ _ (by simp <;> omega), World.cell?_alloc_past _ _ _ (by simp <;> omega), World.cell?_alloc_at _ _ _ _ (by simp)]; simp; done) | (rw [World.cell?_alloc_past _ _ _ (by simp <;> omega), World.cell?_alloc_past _ _ _ (by simp <;> omega), World.cell?_alloc_past _ _ _ (by simp <;> omega), World.cell?_alloc_at _ _ _ _ (by simp)]; simp; done))
  have ac1_a0_0 := fun o => keepa o c1_a0_0
  have ac1_a0_1 := fun o => keepa o c1_a0_1
  have ac1_a0_2 := fun o => keepa o c1_a0_2
  have ac1_a1_0 := fun o => keepa o c1_a1_0
  have ac1_a1_1 := fun o => keepa o c1_a1_1
  have ac1_a1_2 := fun o => keepa o c1_a1_2
  have ac1_a1_3 := fun o => keepa o c1_a1_3
  have ac1_a1_4 := fun o => keepa o c1_a1_4
  have ac1_a1_5 := fun o => keepa o c1_a1_5
  have rP0 := P0.out.below hb'; clear P0; have P0 := Lib.hid rP0; clear rP0
  have rP1 := P1.out.below hb'; clear P1; have P1 := Lib.hid rP1; clear rP1
  have rP2 := P2.out.below hb'; clear P2; have P2 := Lib.hid rP2; clear rP2
  have rB := hb'; have B := Lib.hid rB; clear rB
  clear hb hb'
  by_cases hs1 : 1048576 < n0
  · rw [szOf_neg' (by omega)]
    go_wp2
    go_ret
    exact ⟨rfl, B.out⟩
  rw [szOf_pos' (by omega)]
  have hs1' : (0 : Int) ≤ 1048576 - (n0 : Nat) := by omega
  go_wp2_with fail
  refine (szFormula_c _ _ _ _ _ _ its1 _ _ _ jts1 _ _ _ xs1 _ _ (by exact (P1.out.rd)) hb1_0 hb1_1 hb1_2 hj1_0 hj1_1 (by omega) (by omega)).mono ?_
  rintro e w2 ⟨rfl, hb⟩
  have hb' : Below w1.heap.size w1 w2 := (by first | (with_reducible exact hb) | (with_reducible exact up1 hb) | (with_reducible exact up2 hb) | (with_reducible exact up3 hb) | (with_reducible exact up4 hb) | (with_reducible exact below_of_drew hb) | (with_reducible exact below_of_drew (up1 hb)))
  have z2 := hb'.size
  have c2_a0_0 : w2.cell? ⟨w.heap.size, 0, none⟩ = some (.int .i64 sy0) := keepc hb' c1_a0_0
  clear c1_a0_0 ac1_a0_0
  have c2_a0_1 : w2.cell? ⟨w.heap.size, 1, none⟩ = some (.int .i64 st0) := keepc hb' c1_a0_1
  clear c1_a0_1 ac1_a0_1
  have c2_a0_2 : w2.cell? ⟨w.heap.size, 2, none⟩ = some (.slice A0 n0 c0) := keepc hb' c1_a0_2
  clear c1_a0_2 ac1_a0_2
  have c2_a1_0 : w2.cell? ⟨(w.heap.size + 1), 0, none⟩ = some (.int .i64 st1) := keepc hb' c1_a1_0
  clear c1_a1_0 ac1_a1_0
  have c2_a1_1 : w2.cell? ⟨(w.heap.size + 1), 1, none⟩ = some (.int .i64 hd1) := keepc hb' c1_a1_1
  clear c1_a1_1 ac1_a1_1
  have c2_a1_2 : w2.cell? ⟨(w.heap.size + 1), 2, none⟩ = some (.int .i64 at1) := keepc hb' c1_a1_2
  clear c1_a1_2 ac1_a1_2
  have c2_a1_3 : w2.cell? ⟨(w.heap.size + 1), 3, none⟩ = some (.slice A1 n1 c1) := keepc hb' c1_a1_3
  clear c1_a1_3 ac1_a1_3
  have c2_a1_4 : w2.cell? ⟨(w.heap.size + 1), 4, none⟩ = some (.slice B1 m1 d1) := keepc hb' c1_a1_4
  clear c1_a1_4 ac1_a1_4
  have c2_a1_5 : w2.cell? ⟨(w.heap.size + 1), 5, none⟩ = some (.slice C1 k1 e1) := keepc hb' c1_a1_5
  clear c1_a1_5 ac1_a1_5
  have ac2_a0_0 := fun o => keepa o c2_a0_0
  have ac2_a0_1 := fun o => keepa o c2_a0_1
  have ac2_a0_2 := fun o => keepa o c2_a0_2
  have ac2_a1_0 := fun o => keepa o c2_a1_0
  have ac2_a1_1 := fun o => keepa o c2_a1_1
  have ac2_a1_2 := fun o => keepa o c2_a1_2
  have ac2_a1_3 := fun o => keepa o c2_a1_3
  have ac2_a1_4 := fun o => keepa o c2_a1_4
  have ac2_a1_5 := fun o => keepa o c2_a1_5
  have rP0 := P0.out.below hb'; clear P0; have P0 := Lib.hid rP0; clear rP0
  have rP1 := P1.out.below hb'; clear P1; have P1 := Lib.hid rP1; clear rP1
  have rP2 := P2.out.below hb'; clear P2; have P2 := Lib.hid rP2; clear rP2
  have rB := below_chain B.out (by omega) hb'; clear B; have B := Lib.hid rB; clear rB
  clear hb hb'
  by_cases hs2 : 1048576 - (n0 : Nat) < (n1 + sumN its1 + (m1 + sumN jts1) + k1)
  · rw [szOf_neg' (by omega)]
    go_wp2
    go_ret
    exact ⟨rfl, B.out⟩
  rw [szOf_pos' (by omega)]
  have hs2' : (0 : Int) ≤ 1048576 - (n0 : Nat) - ((n1 + sumN its1 + (m1 + sumN jts1) + k1) : Nat) := by omega
  have hI0_a1 : ∀ t ∈ its1, t.n ≤ 1000000000 := fun t ht => by have := sumN_mem ht; omega
  have hI1_a1 : ∀ t ∈ jts1, t.n ≤ 1000000000 := fun t ht => by have := sumN_mem ht; omega
  go_wp2_with fail
  go_cut [8, 9] (fun v0 v1 wx => ∃ (g17 : Nat) (A11 : Option Addr) (n12 : Nat) (c13 : Nat) (B14 : Option Addr) (m15 : Nat) (d16 : Nat), v0 = .pointer (some ⟨g17, 0, none⟩) ∧ v1 = .int .i64 (fatR sy0 st0 xs0 st1 hd1 at1 (its1.map It.xs) (jts1.map It.xs) xs1 xs2).2 ∧ wx.cell? ⟨g17, 0, none⟩ = some (.int .i64 (fatR sy0 st0 xs0 st1 hd1 at1 (its1.map It.xs) (jts1.map It.xs) xs1 xs2).1.1) ∧ wx.cell? ⟨g17, 1, none⟩ = some (.slice A11 n12 c13) ∧ wx.cell? ⟨g17, 2, none⟩ = some (.slice B14 m15 d16) ∧ WrS wx w2.heap.size wx.heap.size ([sgI A11 n12 ((fatR sy0 st0 xs0 st1 hd1 at1 (its1.map It.xs) (jts1.map It.xs) xs1 xs2).1.2).1] ++ [sgI B14 m15 ((fatR sy0 st0 xs0 st1 hd1 at1 (its1.map It.xs) (jts1.map It.xs) xs1 xs2).1.2).2]) ∧ (n12 ≤ 1000000 ∧ m15 ≤ 1000000) ∧ w2.heap.size ≤ g17 ∧ Below w2.heap.size w2 wx)
  case first =>
    have fx_c2_a0_0 := Ext.cell c2_a0_0
    have fx_c2_a0_1 := Ext.cell c2_a0_1
    have fx_c2_a0_2 := Ext.cell c2_a0_2
    have fx_c2_a1_0 := Ext.cell c2_a1_0
    have fx_c2_a1_1 := Ext.cell c2_a1_1
    have fx_c2_a1_2 := Ext.cell c2_a1_2
    have fx_c2_a1_3 := Ext.cell c2_a1_3
    have fx_c2_a1_4 := Ext.cell c2_a1_4
    have fx_c2_a1_5 := Ext.cell c2_a1_5
    refine Mix.wp_region_mixF 10 [3, 1, 3, 1, 0, 1, 1, 0, 0, 0, 1, 2, 0] (fun w' => ∃ x : Ext w2, w' = x.w) (by kernel_rfl) (by kernel_rfl) (InExt.drew _) _ _ (by rfl) ?_
    simp only [List.take_succ_cons, List.take_zero, List.drop_succ_cons, List.drop_zero]
    have e0 : Below w2.heap.size w2 w2.drew := InExt.out (InExt.drew _)
    refine Mix.wpF_3 ?_
    (refine Mix.wpMix_read (by rfl) ?_; go_big_quiet_step (fail); refine wpQuiet_nil ?_)
    refine Mix.wpMix_nil ?_
    refine Mix.wpF_1 ?_ ?_
    · simp only [List.cons_append, List.nil_append]
      have e0p := e0
      refine Mix.wpMix_chg (by rfl) (fun K hK => ?_)
      go_wp2_with fail
      refine hK _ _ ⟨⟨_, e0.alloc e0.size _⟩, rfl⟩ ?_
      clear hK K
      have bk : Blk (w2.drew.alloc (.cells #[.int .i64 0, .slice none 0 0, .slice none 0 0] 59)) w2.heap.size 59 #[.int .i64 0, .slice none 0 0, .slice none 0 0] := Blk.new _ _ _
      have e0 := e0.alloc e0.size (.cells #[.int .i64 0, .slice none 0 0, .slice none 0 0] 59)
      refine Mix.wpMix_chg (by rfl) (fun K hK => ?_)
      go_wp2_with fail
      refine (toMachine_c _ _ _ _ _ _ _ (by exact ((P0.out.rd).below e0)) (by omega)).mono ?_
      rintro e ua11 ⟨g020, rfl, q21, hb⟩
      try simp only [World.size_alloc] at q21
      have e0 := below_chain e0 e0.size hb
      have bk := bk.keep hb
      have e_q21 : Below ua11.heap.size ua11 ua11 := below_size
      have zua11 : w2.heap.size + 1 ≤ ua11.heap.size := by first | exact hb.size | exact Nat.le_trans (Nat.le_of_eq (World.size_alloc ..).symm) hb.size
      clear hb
      go_wp2_with fail
      refine hK _ _ ⟨⟨_, e0⟩, rfl⟩ ?_
      clear hK K
      (refine Mix.wpMix_read (by rfl) ?_; go_big_quiet_step (fail); refine wpQuiet_nil ?_)
      refine Mix.wpMix_chg (by rfl) (fun K hK => ?_)
      go_wp2_with fail
      refine (toFormula_c _ _ _ _ _ _ _ _ _ _ _ _ _ _ _ _ (by exact ((P1.out.rd).below e0)) (by omega) (by omega) (by omega) hI0_a1 hI1_a1).mono ?_
      rintro e ua13 ⟨g022, js023, g124, js125, g226, rfl, hx28, hx29, q27, hb⟩
      try simp only [World.size_alloc] at q27
      have hI_hx28 : ∀ t ∈ js023, t.n ≤ 1000000000 := hi_of ((((P1.out.rd).below e0)).left.left) (((q27).rd).left.left) hx28 hI0_a1
      have hx28h := Lib.hid hx28; clear hx28
      have hI_hx29 : ∀ t ∈ js125, t.n ≤ 1000000000 := hi_of ((((P1.out.rd).below e0)).left.right) (((q27).rd).left.right) hx29 hI1_a1
      have hx29h := Lib.hid hx29; clear hx29
      have e_q21 := below_chain e_q21 e_q21.size hb
      have e0 := below_chain e0 e0.size hb
      have bk := bk.keep hb
      have e_q27 : Below ua13.heap.size ua13 ua13 := below_size
      have zua13 : ua11.heap.size ≤ ua13.heap.size := by first | exact hb.size | exact Nat.le_trans (Nat.le_of_eq (World.size_alloc ..).symm) hb.size
      clear hb
      go_wp2_with fail
      refine hK _ _ ⟨⟨_, e0⟩, rfl⟩ ?_
      clear hK K
      (refine Mix.wpMix_pure (by rfl) ?_; go_big_quiet_step (fail); refine wpQuiet_nil ?_)
      refine Mix.wpMix_chg (by rfl) (fun K hK => ?_)
      go_wp2_with fail
      refine (toInt64S_c _ _ _ _ _ (by exact ((P2.out.1).below e0)) (by omega)).mono ?_
      rintro e ua15 ⟨rfl, q30, hb⟩
      try simp only [World.size_alloc] at q30
      have e_q21 := below_chain e_q21 e_q21.size hb
      have e_q27 := below_chain e_q27 e_q27.size hb
      have e0 := below_chain e0 e0.size hb
      have bk := bk.keep hb
      have e_q30 : Below ua15.heap.size ua15 ua15 := below_size
      have zua15 : ua13.heap.size ≤ ua15.heap.size := by first | exact hb.size | exact Nat.le_trans (Nat.le_of_eq (World.size_alloc ..).symm) hb.size
      clear hb
      go_wp2_with fail
      refine hK _ _ ⟨⟨_, e0⟩, rfl⟩ ?_
      clear hK K
      refine Mix.wpMix_chg (by rfl) (fun K hK => ?_)
      go_wp2_with fail
      refine (sFormulaAt_c _ _ _ _ _ _ _ _ _ _ _ _ _ _ _ _ _ _ _ _ _ _ _ _ _ _ (by exact (q21.below e_q21).rd) (by exact (q27.below e_q27).rd) (by exact (q30.below e_q30).rdI) (by omega) (by omega) (by omega) (by omega) (by omega) hI_hx28 hI_hx29 hx28h.out hx29h.out).mono ?_
      rintro e ua16 ⟨A11, n12, c13, B14, m15, d16, rfl, q18, l19, hb⟩
      have e_q21 := below_chain e_q21 e_q21.size hb
      have e_q27 := below_chain e_q27 e_q27.size hb
      have e_q30 := below_chain e_q30 e_q30.size hb
      have e0 := below_chain e0 e0.size hb
      have bk := bk.keep hb
      have e_q18 : Below ua16.heap.size ua16 ua16 := below_size
      have zua16 : ua15.heap.size ≤ ua16.heap.size := by first | exact hb.size | exact Nat.le_trans (Nat.le_of_eq (World.size_alloc ..).symm) hb.size
      have q18 : WrS ua16 (ua15.heap.size) ua16.heap.size ([sgI A11 n12 ((fatR sy0 st0 xs0 st1 hd1 at1 (its1.map It.xs) (jts1.map It.xs) xs1 xs2).1.2).1] ++ [sgI B14 m15 ((fatR sy0 st0 xs0 st1 hd1 at1 (its1.map It.xs) (jts1.map It.xs) xs1 xs2).1.2).2]) := by first | exact q18.wider (Nat.le_refl _) (Nat.le_refl _) | exact q18.wider (Nat.le_of_eq (World.size_alloc ..).symm) (Nat.le_refl _)
      clear hb
      go_wp2_with fail
      refine hK _ _ ⟨⟨_, e0⟩, rfl⟩ ?_
      clear hK K
      (refine Mix.wpMix_pure (by rfl) ?_; go_big_quiet_step (fail); refine wpQuiet_nil ?_)
      (refine Mix.wpMix_pure (by rfl) ?_; go_big_quiet_step (fail); refine wpQuiet_nil ?_)
      (refine Mix.wpMix_pure (by rfl) ?_; go_big_quiet_step (fail); refine wpQuiet_nil ?_)
      repeat (first | (refine Mix.wpMix_read (by rfl) ?_; go_big_quiet_step (fail); refine wpQuiet_nil ?_) | (refine Mix.wpMix_pure (by rfl) ?_; go_big_quiet_step (fail); refine wpQuiet_nil ?_))
      have d0 := bk.cell 0; have f0 := bk.frozen 0
      simp at d0
      have d1 := bk.cell 1; have f1 := bk.frozen 1
      simp at d1
      have d2 := bk.cell 2; have f2 := bk.frozen 2
      simp at d2
      refine Mix.wpMix_tail (by rfl) (fun K hK => ?_)
      go_wp2_with fail
      refine hK _ _ ?_
      clear hK K
      repeat (first | (refine Mix.wpMix_read (by rfl) ?_; go_big_quiet_step (fail); refine wpQuiet_nil ?_) | (refine Mix.wpMix_pure (by rfl) ?_; go_big_quiet_step (fail); refine wpQuiet_nil ?_))
      (refine Mix.wpMix_nil ?_; try simp only [Exit.then])
      go_wp2_with fail
      go_meet
      have bk2 := (((bk.set_ 0 (.int .i64 (fatR sy0 st0 xs0 st1 hd1 at1 (its1.map It.xs) (jts1.map It.xs) xs1 xs2).1.1)).set_ 1 (.slice A11 n12 c13)).set_ 2 (.slice B14 m15 d16))
      refine ⟨w2.heap.size, A11, n12, c13, B14, m15, d16, rfl, rfl, (by have := bk2.cell 0; first | exact this | (simp; done) | simpa using this), (by have := bk2.cell 1; first | exact this | (simp; done) | simpa using this), (by have := bk2.cell 2; first | exact this | (simp; done) | simpa using this), ?_, l19, ?_, ?_⟩
      · first | exact (q18.alloc _).wider (by first | omega | exact Nat.le_refl _ | (simp; done) | (simp; omega)) (by first | omega | exact Nat.le_refl _ | (simp; done) | (simp; omega)) | exact (((q18.set_far (.inl (by first | omega | exact Nat.le_refl _ | (simp; done) | (simp; omega))) _).set_far (.inl (by first | omega | exact Nat.le_refl _ | (simp; done) | (simp; omega))) _).set_far (.inl (by first | omega | exact Nat.le_refl _ | (simp; done) | (simp; omega))) _).wider (by first | omega | exact Nat.le_refl _ | (simp; done) | (simp; omega)) (by first | omega | exact Nat.le_refl _ | (simp; done) | (simp; omega))
      · exact (by first | omega | exact Nat.le_refl _ | (simp; done) | (simp; omega))
      · first | exact (by have hzz := (e0).size; repeat' (first | (with_reducible exact e0) | (with_reducible refine Below.alloc ?_ ?_ _) | (with_reducible refine Below.setCell ?_ ?_ _) | (with_reducible refine below_drew ?_) | omega | (simp; done) | (simp; omega))) | exact (by have hzz := (e0p).size; repeat' (first | (with_reducible exact e0p) | (with_reducible refine Below.alloc ?_ ?_ _) | (with_reducible refine Below.setCell ?_ ?_ _) | (with_reducible refine below_drew ?_) | omega | (simp; done) | (simp; omega)))
    refine Mix.wpMix_chg (by rfl) (fun K hK => ?_)
    go_wp2_with fail
    refine (toMachine_c _ _ _ _ _ _ _ (by exact ((P0.out.rd).below e0)) (by omega)).mono ?_
    rintro e u1 ⟨g031, rfl, q32, hb⟩
    try simp only [World.size_alloc] at q32
    have e0 := below_chain e0 e0.size hb
    have e_q32 : Below u1.heap.size u1 u1 := below_size
    have zu1 : w2.heap.size ≤ u1.heap.size := by first | exact hb.size | exact Nat.le_trans (Nat.le_of_eq (World.size_alloc ..).symm) hb.size
    clear hb
    go_wp2_with fail
    refine hK _ _ ⟨⟨_, e0⟩, rfl⟩ ?_
    clear hK K
    refine Mix.wpMix_nil ?_
    refine Mix.wpF_3 ?_
    (refine Mix.wpMix_read (by rfl) ?_; go_big_quiet_step (fail); refine wpQuiet_nil ?_)
    refine Mix.wpMix_nil ?_
    refine Mix.wpF_1 ?_ ?_
    · simp only [List.cons_append, List.nil_append]
      have e0p := e0
      refine Mix.wpMix_chg (by rfl) (fun K hK => ?_)
      go_wp2_with fail
      refine hK _ _ ⟨⟨_, e0.alloc e0.size _⟩, rfl⟩ ?_
      clear hK K
      have e_q32 := e_q32.alloc e_q32.size (.cells #[.int .i64 0, .slice none 0 0, .slice none 0 0] 59)
      have bk : Blk (u1.alloc (.cells #[.int .i64 0, .slice none 0 0, .slice none 0 0] 59)) u1.heap.size 59 #[.int .i64 0, .slice none 0 0, .slice none 0 0] := Blk.new _ _ _
      have e0 := e0.alloc e0.size (.cells #[.int .i64 0, .slice none 0 0, .slice none 0 0] 59)
      refine Mix.wpMix_chg (by rfl) (fun K hK => ?_)
      go_wp2_with fail
      refine (toFormula_c _ _ _ _ _ _ _ _ _ _ _ _ _ _ _ _ (by exact ((P1.out.rd).below e0)) (by omega) (by omega) (by omega) hI0_a1 hI1_a1).mono ?_
      rintro e ua33 ⟨g033, js034, g135, js136, g237, rfl, hx39, hx40, q38, hb⟩
      try simp only [World.size_alloc] at q38
      have hI_hx39 : ∀ t ∈ js034, t.n ≤ 1000000000 := hi_of ((((P1.out.rd).below e0)).left.left) (((q38).rd).left.left) hx39 hI0_a1
      have hx39h := Lib.hid hx39; clear hx39
      have hI_hx40 : ∀ t ∈ js136, t.n ≤ 1000000000 := hi_of ((((P1.out.rd).below e0)).left.right) (((q38).rd).left.right) hx40 hI1_a1
      have hx40h := Lib.hid hx40; clear hx40
      have e_q32 := below_chain e_q32 e_q32.size hb
      have e0 := below_chain e0 e0.size hb
      have bk := bk.keep hb
      have e_q38 : Below ua33.heap.size ua33 ua33 := below_size
      have zua33 : u1.heap.size + 1 ≤ ua33.heap.size := by first | exact hb.size | exact Nat.le_trans (Nat.le_of_eq (World.size_alloc ..).symm) hb.size
      clear hb
      go_wp2_with fail
      refine hK _ _ ⟨⟨_, e0⟩, rfl⟩ ?_
      clear hK K
      (refine Mix.wpMix_pure (by rfl) ?_; go_big_quiet_step (fail); refine wpQuiet_nil ?_)
      refine Mix.wpMix_chg (by rfl) (fun K hK => ?_)
      go_wp2_with fail
      refine (toInt64S_c _ _ _ _ _ (by exact ((P2.out.1).below e0)) (by omega)).mono ?_
      rintro e ua35 ⟨rfl, q41, hb⟩
      try simp only [World.size_alloc] at q41
      have e_q32 := below_chain e_q32 e_q32.size hb
      have e_q38 := below_chain e_q38 e_q38.size hb
      have e0 := below_chain e0 e0.size hb
      have bk := bk.keep hb
      have e_q41 : Below ua35.heap.size ua35 ua35 := below_size
      have zua35 : ua33.heap.size ≤ ua35.heap.size := by first | exact hb.size | exact Nat.le_trans (Nat.le_of_eq (World.size_alloc ..).symm) hb.size
      clear hb
      go_wp2_with fail
      refine hK _ _ ⟨⟨_, e0⟩, rfl⟩ ?_
      clear hK K
      refine Mix.wpMix_chg (by rfl) (fun K hK => ?_)
      go_wp2_with fail
      refine (sFormulaAt_c _ _ _ _ _ _ _ _ _ _ _ _ _ _ _ _ _ _ _ _ _ _ _ _ _ _ (by exact (q32.below e_q32).rd) (by exact (q38.below e_q38).rd) (by exact (q41.below e_q41).rdI) (by omega) (by omega) (by omega) (by omega) (by omega) hI_hx39 hI_hx40 hx39h.out hx40h.out).mono ?_
      rintro e ua36 ⟨A11, n12, c13, B14, m15, d16, rfl, q18, l19, hb⟩
      have e_q32 := below_chain e_q32 e_q32.size hb
      have e_q38 := below_chain e_q38 e_q38.size hb
      have e_q41 := below_chain e_q41 e_q41.size hb
      have e0 := below_chain e0 e0.size hb
      have bk := bk.keep hb
      have e_q18 : Below ua36.heap.size ua36 ua36 := below_size
      have zua36 : ua35.heap.size ≤ ua36.heap.size := by first | exact hb.size | exact Nat.le_trans (Nat.le_of_eq (World.size_alloc ..).symm) hb.size
      have q18 : WrS ua36 (ua35.heap.size) ua36.heap.size ([sgI A11 n12 ((fatR sy0 st0 xs0 st1 hd1 at1 (its1.map It.xs) (jts1.map It.xs) xs1 xs2).1.2).1] ++ [sgI B14 m15 ((fatR sy0 st0 xs0 st1 hd1 at1 (its1.map It.xs) (jts1.map It.xs) xs1 xs2).1.2).2]) := by first | exact q18.wider (Nat.le_refl _) (Nat.le_refl _) | exact q18.wider (Nat.le_of_eq (World.size_alloc ..).symm) (Nat.le_refl _)
      clear hb
      go_wp2_with fail
      refine hK _ _ ⟨⟨_, e0⟩, rfl⟩ ?_
      clear hK K
      (refine Mix.wpMix_pure (by rfl) ?_; go_big_quiet_step (fail); refine wpQuiet_nil ?_)
      (refine Mix.wpMix_pure (by rfl) ?_; go_big_quiet_step (fail); refine wpQuiet_nil ?_)
      (refine Mix.wpMix_pure (by rfl) ?_; go_big_quiet_step (fail); refine wpQuiet_nil ?_)
      repeat (first | (refine Mix.wpMix_read (by rfl) ?_; go_big_quiet_step (fail); refine wpQuiet_nil ?_) | (refine Mix.wpMix_pure (by rfl) ?_; go_big_quiet_step (fail); refine wpQuiet_nil ?_))
      have d0 := bk.cell 0; have f0 := bk.frozen 0
      simp at d0
      have d1 := bk.cell 1; have f1 := bk.frozen 1
      simp at d1
      have d2 := bk.cell 2; have f2 := bk.frozen 2
      simp at d2
      refine Mix.wpMix_tail (by rfl) (fun K hK => ?_)
      go_wp2_with fail
      refine hK _ _ ?_
      clear hK K
      repeat (first | (refine Mix.wpMix_read (by rfl) ?_; go_big_quiet_step (fail); refine wpQuiet_nil ?_) | (refine Mix.wpMix_pure (by rfl) ?_; go_big_quiet_step (fail); refine wpQuiet_nil ?_))
      (refine Mix.wpMix_nil ?_; try simp only [Exit.then])
      go_wp2_with fail
      go_meet
      have bk2 := (((bk.set_ 0 (.int .i64 (fatR sy0 st0 xs0 st1 hd1 at1 (its1.map It.xs) (jts1.map It.xs) xs1 xs2).1.1)).set_ 1 (.slice A11 n12 c13)).set_ 2 (.slice B14 m15 d16))
      refine ⟨u1.heap.size, A11, n12, c13, B14, m15, d16, rfl, rfl, (by have := bk2.cell 0; first | exact this | (simp; done) | simpa using this), (by have := bk2.cell 1; first | exact this | (simp; done) | simpa using this), (by have := bk2.cell 2; first | exact this | (simp; done) | simpa using this), ?_, l19, ?_, ?_⟩
      · first | exact (q18.alloc _).wider (by first | omega | exact Nat.le_refl _ | (simp; done) | (simp; omega)) (by first | omega | exact Nat.le_refl _ | (simp; done) | (simp; omega)) | exact (((q18.set_far (.inl (by first | omega | exact Nat.le_refl _ | (simp; done) | (simp; omega))) _).set_far (.inl (by first | omega | exact Nat.le_refl _ | (simp; done) | (simp; omega))) _).set_far (.inl (by first | omega | exact Nat.le_refl _ | (simp; done) | (simp; omega))) _).wider (by first | omega | exact Nat.le_refl _ | (simp; done) | (simp; omega)) (by first | omega | exact Nat.le_refl _ | (simp; done) | (simp; omega))
      · exact (by first | omega | exact Nat.le_refl _ | (simp; done) | (simp; omega))
      · first | exact (by have hzz := (e0).size; repeat' (first | (with_reducible exact e0) | (with_reducible refine Below.alloc ?_ ?_ _) | (with_reducible refine Below.setCell ?_ ?_ _) | (with_reducible refine below_drew ?_) | omega | (simp; done) | (simp; omega))) | exact (by have hzz := (e0p).size; repeat' (first | (with_reducible exact e0p) | (with_reducible refine Below.alloc ?_ ?_ _) | (with_reducible refine Below.setCell ?_ ?_ _) | (with_reducible refine below_drew ?_) | omega | (simp; done) | (simp; omega)))
    refine Mix.wpMix_chg (by rfl) (fun K hK => ?_)
    go_wp2_with fail
    refine (toFormula_c _ _ _ _ _ _ _ _ _ _ _ _ _ _ _ _ (by exact ((P1.out.rd).below e0)) (by omega) (by omega) (by omega) hI0_a1 hI1_a1).mono ?_
    rintro e u3 ⟨g042, js043, g144, js145, g246, rfl, hx48, hx49, q47, hb⟩
    try simp only [World.size_alloc] at q47
    have hI_hx48 : ∀ t ∈ js043, t.n ≤ 1000000000 := hi_of ((((P1.out.rd).below e0)).left.left) (((q47).rd).left.left) hx48 hI0_a1
    have hx48h := Lib.hid hx48; clear hx48
    have hI_hx49 : ∀ t ∈ js145, t.n ≤ 1000000000 := hi_of ((((P1.out.rd).below e0)).left.right) (((q47).rd).left.right) hx49 hI1_a1
    have hx49h := Lib.hid hx49; clear hx49
    have e_q32 := below_chain e_q32 e_q32.size hb
    have e0 := below_chain e0 e0.size hb
    have e_q47 : Below u3.heap.size u3 u3 := below_size
    have zu3 : u1.heap.size ≤ u3.heap.size := by first | exact hb.size | exact Nat.le_trans (Nat.le_of_eq (World.size_alloc ..).symm) hb.size
    clear hb
    go_wp2_with fail
    refine hK _ _ ⟨⟨_, e0⟩, rfl⟩ ?_
    clear hK K
    refine Mix.wpMix_nil ?_
    refine Mix.wpF_0 ?_
    (refine Mix.wpMix_pure (by rfl) ?_; go_big_quiet_step (fail); refine wpQuiet_nil ?_)
    refine Mix.wpMix_nil ?_
    refine Mix.wpF_1 ?_ ?_
    · simp only [List.cons_append, List.nil_append]
      have e0p := e0
      refine Mix.wpMix_chg (by rfl) (fun K hK => ?_)
      go_wp2_with fail
      refine hK _ _ ⟨⟨_, e0.alloc e0.size _⟩, rfl⟩ ?_
      clear hK K
      have e_q32 := e_q32.alloc e_q32.size (.cells #[.int .i64 0, .slice none 0 0, .slice none 0 0] 59)
      have e_q47 := e_q47.alloc e_q47.size (.cells #[.int .i64 0, .slice none 0 0, .slice none 0 0] 59)
      have bk : Blk (u3.alloc (.cells #[.int .i64 0, .slice none 0 0, .slice none 0 0] 59)) u3.heap.size 59 #[.int .i64 0, .slice none 0 0, .slice none 0 0] := Blk.new _ _ _
      have e0 := e0.alloc e0.size (.cells #[.int .i64 0, .slice none 0 0, .slice none 0 0] 59)
      refine Mix.wpMix_chg (by rfl) (fun K hK => ?_)
      go_wp2_with fail
      refine (toInt64S_c _ _ _ _ _ (by exact ((P2.out.1).below e0)) (by omega)).mono ?_
      rintro e ua55 ⟨rfl, q50, hb⟩
      try simp only [World.size_alloc] at q50
      have e_q32 := below_chain e_q32 e_q32.size hb
      have e_q47 := below_chain e_q47 e_q47.size hb
      have e0 := below_chain e0 e0.size hb
      have bk := bk.keep hb
      have e_q50 : Below ua55.heap.size ua55 ua55 := below_size
      have zua55 : u3.heap.size + 1 ≤ ua55.heap.size := by first | exact hb.size | exact Nat.le_trans (Nat.le_of_eq (World.size_alloc ..).symm) hb.size
      clear hb
      go_wp2_with fail
      refine hK _ _ ⟨⟨_, e0⟩, rfl⟩ ?_
      clear hK K
      refine Mix.wpMix_chg (by rfl) (fun K hK => ?_)
      go_wp2_with fail
      refine (sFormulaAt_c _ _ _ _ _ _ _ _ _ _ _ _ _ _ _ _ _ _ _ _ _ _ _ _ _ _ (by exact (q32.below e_q32).rd) (by exact (q47.below e_q47).rd) (by exact (q50.below e_q50).rdI) (by omega) (by omega) (by omega) (by omega) (by omega) hI_hx48 hI_hx49 hx48h.out hx49h.out).mono ?_
      rintro e ua56 ⟨A11, n12, c13, B14, m15, d16, rfl, q18, l19, hb⟩
      have e_q32 := below_chain e_q32 e_q32.size hb
      have e_q47 := below_chain e_q47 e_q47.size hb
      have e_q50 := below_chain e_q50 e_q50.size hb
      have e0 := below_chain e0 e0.size hb
      have bk := bk.keep hb
      have e_q18 : Below ua56.heap.size ua56 ua56 := below_size
      have zua56 : ua55.heap.size ≤ ua56.heap.size := by first | exact hb.size | exact Nat.le_trans (Nat.le_of_eq (World.size_alloc ..).symm) hb.size
      have q18 : WrS ua56 (ua55.heap.size) ua56.heap.size ([sgI A11 n12 ((fatR sy0 st0 xs0 st1 hd1 at1 (its1.map It.xs) (jts1.map It.xs) xs1 xs2).1.2).1] ++ [sgI B14 m15 ((fatR sy0 st0 xs0 st1 hd1 at1 (its1.map It.xs) (jts1.map It.xs) xs1 xs2).1.2).2]) := by first | exact q18.wider (Nat.le_refl _) (Nat.le_refl _) | exact q18.wider (Nat.le_of_eq (World.size_alloc ..).symm) (Nat.le_refl _)
      clear hb
      go_wp2_with fail
      refine hK _ _ ⟨⟨_, e0⟩, rfl⟩ ?_
      clear hK K
      (refine Mix.wpMix_pure (by rfl) ?_; go_big_quiet_step (fail); refine wpQuiet_nil ?_)
      (refine Mix.wpMix_pure (by rfl) ?_; go_big_quiet_step (fail); refine wpQuiet_nil ?_)
      (refine Mix.wpMix_pure (by rfl) ?_; go_big_quiet_step (fail); refine wpQuiet_nil ?_)
      repeat (first | (refine Mix.wpMix_read (by rfl) ?_; go_big_quiet_step (fail); refine wpQuiet_nil ?_) | (refine Mix.wpMix_pure (by rfl) ?_; go_big_quiet_step (fail); refine wpQuiet_nil ?_))
      have d0 := bk.cell 0; have f0 := bk.frozen 0
      simp at d0
      have d1 := bk.cell 1; have f1 := bk.frozen 1
      simp at d1
      have d2 := bk.cell 2; have f2 := bk.frozen 2
      simp at d2
      refine Mix.wpMix_tail (by rfl) (fun K hK => ?_)
      go_wp2_with fail
      refine hK _ _ ?_
      clear hK K
      repeat (first | (refine Mix.wpMix_read (by rfl) ?_; go_big_quiet_step (fail); refine wpQuiet_nil ?_) | (refine Mix.wpMix_pure (by rfl) ?_; go_big_quiet_step (fail); refine wpQuiet_nil ?_))
      (refine Mix.wpMix_nil ?_; try simp only [Exit.then])
      go_wp2_with fail
      go_meet
      have bk2 := (((bk.set_ 0 (.int .i64 (fatR sy0 st0 xs0 st1 hd1 at1 (its1.map It.xs) (jts1.map It.xs) xs1 xs2).1.1)).set_ 1 (.slice A11 n12 c13)).set_ 2 (.slice B14 m15 d16))
      refine ⟨u3.heap.size, A11, n12, c13, B14, m15, d16, rfl, rfl, (by have := bk2.cell 0; first | exact this | (simp; done) | simpa using this), (by have := bk2.cell 1; first | exact this | (simp; done) | simpa using this), (by have := bk2.cell 2; first | exact this | (simp; done) | simpa using this), ?_, l19, ?_, ?_⟩
      · first | exact (q18.alloc _).wider (by first | omega | exact Nat.le_refl _ | (simp; done) | (simp; omega)) (by first | omega | exact Nat.le_refl _ | (simp; done) | (simp; omega)) | exact (((q18.set_far (.inl (by first | omega | exact Nat.le_refl _ | (simp; done) | (simp; omega))) _).set_far (.inl (by first | omega | exact Nat.le_refl _ | (simp; done) | (simp; omega))) _).set_far (.inl (by first | omega | exact Nat.le_refl _ | (simp; done) | (simp; omega))) _).wider (by first | omega | exact Nat.le_refl _ | (simp; done) | (simp; omega)) (by first | omega | exact Nat.le_refl _ | (simp; done) | (simp; omega))
      · exact (by first | omega | exact Nat.le_refl _ | (simp; done) | (simp; omega))
      · first | exact (by have hzz := (e0).size; repeat' (first | (with_reducible exact e0) | (with_reducible refine Below.alloc ?_ ?_ _) | (with_reducible refine Below.setCell ?_ ?_ _) | (with_reducible refine below_drew ?_) | omega | (simp; done) | (simp; omega))) | exact (by have hzz := (e0p).size; repeat' (first | (with_reducible exact e0p) | (with_reducible refine Below.alloc ?_ ?_ _) | (with_reducible refine Below.setCell ?_ ?_ _) | (with_reducible refine below_drew ?_) | omega | (simp; done) | (simp; omega)))
    refine Mix.wpMix_chg (by rfl) (fun K hK => ?_)
    go_wp2_with fail
    refine (toInt64S_c _ _ _ _ _ (by exact ((P2.out.1).below e0)) (by omega)).mono ?_
    rintro e u5 ⟨rfl, q51, hb⟩
    try simp only [World.size_alloc] at q51
    have e_q32 := below_chain e_q32 e_q32.size hb
    have e_q47 := below_chain e_q47 e_q47.size hb
    have e0 := below_chain e0 e0.size hb
    have e_q51 : Below u5.heap.size u5 u5 := below_size
    have zu5 : u3.heap.size ≤ u5.heap.size := by first | exact hb.size | exact Nat.le_trans (Nat.le_of_eq (World.size_alloc ..).symm) hb.size
    clear hb
    go_wp2_with fail
    refine hK _ _ ⟨⟨_, e0⟩, rfl⟩ ?_
    clear hK K
    refine Mix.wpMix_nil ?_
    refine Mix.wpF_1 ?_ ?_
    · simp only [List.cons_append, List.nil_append]
      have e0p := e0
      refine Mix.wpMix_chg (by rfl) (fun K hK => ?_)
      go_wp2_with fail
      refine hK _ _ ⟨⟨_, e0.alloc e0.size _⟩, rfl⟩ ?_
      clear hK K
      have e_q32 := e_q32.alloc e_q32.size (.cells #[.int .i64 0, .slice none 0 0, .slice none 0 0] 59)
      have e_q47 := e_q47.alloc e_q47.size (.cells #[.int .i64 0, .slice none 0 0, .slice none 0 0] 59)
      have e_q51 := e_q51.alloc e_q51.size (.cells #[.int .i64 0, .slice none 0 0, .slice none 0 0] 59)
      have bk : Blk (u5.alloc (.cells #[.int .i64 0, .slice none 0 0, .slice none 0 0] 59)) u5.heap.size 59 #[.int .i64 0, .slice none 0 0, .slice none 0 0] := Blk.new _ _ _
      have e0 := e0.alloc e0.size (.cells #[.int .i64 0, .slice none 0 0, .slice none 0 0] 59)
      refine Mix.wpMix_chg (by rfl) (fun K hK => ?_)
      go_wp2_with fail
      refine (sFormulaAt_c _ _ _ _ _ _ _ _ _ _ _ _ _ _ _ _ _ _ _ _ _ _ _ _ _ _ (by exact (q32.below e_q32).rd) (by exact (q47.below e_q47).rd) (by exact (q51.below e_q51).rdI) (by omega) (by omega) (by omega) (by omega) (by omega) hI_hx48 hI_hx49 hx48h.out hx49h.out).mono ?_
      rintro e ua66 ⟨A11, n12, c13, B14, m15, d16, rfl, q18, l19, hb⟩
      have e_q32 := below_chain e_q32 e_q32.size hb
      have e_q47 := below_chain e_q47 e_q47.size hb
      have e_q51 := below_chain e_q51 e_q51.size hb
      have e0 := below_chain e0 e0.size hb
      have bk := bk.keep hb
      have e_q18 : Below ua66.heap.size ua66 ua66 := below_size
      have zua66 : u5.heap.size + 1 ≤ ua66.heap.size := by first | exact hb.size | exact Nat.le_trans (Nat.le_of_eq (World.size_alloc ..).symm) hb.size
      have q18 : WrS ua66 (u5.heap.size + 1) ua66.heap.size ([sgI A11 n12 ((fatR sy0 st0 xs0 st1 hd1 at1 (its1.map It.xs) (jts1.map It.xs) xs1 xs2).1.2).1] ++ [sgI B14 m15 ((fatR sy0 st0 xs0 st1 hd1 at1 (its1.map It.xs) (jts1.map It.xs) xs1 xs2).1.2).2]) := by first | exact q18.wider (Nat.le_refl _) (Nat.le_refl _) | exact q18.wider (Nat.le_of_eq (World.size_alloc ..).symm) (Nat.le_refl _)
      clear hb
      go_wp2_with fail
      refine hK _ _ ⟨⟨_, e0⟩, rfl⟩ ?_
      clear hK K
      (refine Mix.wpMix_pure (by rfl) ?_; go_big_quiet_step (fail); refine wpQuiet_nil ?_)
      (refine Mix.wpMix_pure (by rfl) ?_; go_big_quiet_step (fail); refine wpQuiet_nil ?_)
      (refine Mix.wpMix_pure (by rfl) ?_; go_big_quiet_step (fail); refine wpQuiet_nil ?_)
      repeat (first | (refine Mix.wpMix_read (by rfl) ?_; go_big_quiet_step (fail); refine wpQuiet_nil ?_) | (refine Mix.wpMix_pure (by rfl) ?_; go_big_quiet_step (fail); refine wpQuiet_nil ?_))
      have d0 := bk.cell 0; have f0 := bk.frozen 0
      simp at d0
      have d1 := bk.cell 1; have f1 := bk.frozen 1
      simp at d1
      have d2 := bk.cell 2; have f2 := bk.frozen 2
      simp at d2
      refine Mix.wpMix_tail (by rfl) (fun K hK => ?_)
      go_wp2_with fail
      refine hK _ _ ?_
      clear hK K
      repeat (first | (refine Mix.wpMix_read (by rfl) ?_; go_big_quiet_step (fail); refine wpQuiet_nil ?_) | (refine Mix.wpMix_pure (by rfl) ?_; go_big_quiet_step (fail); refine wpQuiet_nil ?_))
      (refine Mix.wpMix_nil ?_; try simp only [Exit.then])
      go_wp2_with fail
      go_meet
      have bk2 := (((bk.set_ 0 (.int .i64 (fatR sy0 st0 xs0 st1 hd1 at1 (its1.map It.xs) (jts1.map It.xs) xs1 xs2).1.1)).set_ 1 (.slice A11 n12 c13)).set_ 2 (.slice B14 m15 d16))
      refine ⟨u5.heap.size, A11, n12, c13, B14, m15, d16, rfl, rfl, (by have := bk2.cell 0; first | exact this | (simp; done) | simpa using this), (by have := bk2.cell 1; first | exact this | (simp; done) | simpa using this), (by have := bk2.cell 2; first | exact this | (simp; done) | simpa using this), ?_, l19, ?_, ?_⟩
      · first | exact (q18.alloc _).wider (by first | omega | exact Nat.le_refl _ | (simp; done) | (simp; omega)) (by first | omega | exact Nat.le_refl _ | (simp; done) | (simp; omega)) | exact (((q18.set_far (.inl (by first | omega | exact Nat.le_refl _ | (simp; done) | (simp; omega))) _).set_far (.inl (by first | omega | exact Nat.le_refl _ | (simp; done) | (simp; omega))) _).set_far (.inl (by first | omega | exact Nat.le_refl _ | (simp; done) | (simp; omega))) _).wider (by first | omega | exact Nat.le_refl _ | (simp; done) | (simp; omega)) (by first | omega | exact Nat.le_refl _ | (simp; done) | (simp; omega))
      · exact (by first | omega | exact Nat.le_refl _ | (simp; done) | (simp; omega))
      · first | exact (by have hzz := (e0).size; repeat' (first | (with_reducible exact e0) | (with_reducible refine Below.alloc ?_ ?_ _) | (with_reducible refine Below.setCell ?_ ?_ _) | (with_reducible refine below_drew ?_) | omega | (simp; done) | (simp; omega))) | exact (by have hzz := (e0p).size; repeat' (first | (with_reducible exact e0p) | (with_reducible refine Below.alloc ?_ ?_ _) | (with_reducible refine Below.setCell ?_ ?_ _) | (with_reducible refine below_drew ?_) | omega | (simp; done) | (simp; omega)))
    refine Mix.wpMix_chg (by rfl) (fun K hK => ?_)
    go_wp2_with fail
    refine (sFormulaAt_c _ _ _ _ _ _ _ _ _ _ _ _ _ _ _ _ _ _ _ _ _ _ _ _ _ _ (by exact (q32.below e_q32).rd) (by exact (q47.below e_q47).rd) (by exact (q51.below e_q51).rdI) (by omega) (by omega) (by omega) (by omega) (by omega) hI_hx48 hI_hx49 hx48h.out hx49h.out).mono ?_
    rintro e u6 ⟨A11, n12, c13, B14, m15, d16, rfl, q18, l19, hb⟩
    have e_q32 := below_chain e_q32 e_q32.size hb
    have e_q47 := below_chain e_q47 e_q47.size hb
    have e_q51 := below_chain e_q51 e_q51.size hb
    have e0 := below_chain e0 e0.size hb
    have e_q18 : Below u6.heap.size u6 u6 := below_size
    have zu6 : u5.heap.size ≤ u6.heap.size := by first | exact hb.size | exact Nat.le_trans (Nat.le_of_eq (World.size_alloc ..).symm) hb.size
    have q18 : WrS u6 (u5.heap.size) u6.heap.size ([sgI A11 n12 ((fatR sy0 st0 xs0 st1 hd1 at1 (its1.map It.xs) (jts1.map It.xs) xs1 xs2).1.2).1] ++ [sgI B14 m15 ((fatR sy0 st0 xs0 st1 hd1 at1 (its1.map It.xs) (jts1.map It.xs) xs1 xs2).1.2).2]) := by first | exact q18.wider (Nat.le_refl _) (Nat.le_refl _) | exact q18.wider (Nat.le_of_eq (World.size_alloc ..).symm) (Nat.le_refl _)
    clear hb
    go_wp2_with fail
    refine hK _ _ ⟨⟨_, e0⟩, rfl⟩ ?_
    clear hK K
    refine Mix.wpMix_nil ?_
    refine Mix.wpF_0 ?_
    (refine Mix.wpMix_pure (by rfl) ?_; go_big_quiet_step (fail); refine wpQuiet_nil ?_)
    refine Mix.wpMix_nil ?_
    refine Mix.wpF_0 ?_
    (refine Mix.wpMix_pure (by rfl) ?_; go_big_quiet_step (fail); refine wpQuiet_nil ?_)
    refine Mix.wpMix_nil ?_
    refine Mix.wpF_0 ?_
    (refine Mix.wpMix_pure (by rfl) ?_; go_big_quiet_step (fail); refine wpQuiet_nil ?_)
    refine Mix.wpMix_nil ?_
    refine Mix.wpF_nil ?_
    have e0p := e0
    refine Mix.wpMix_chg (by rfl) (fun K hK => ?_)
    go_wp2_with fail
    refine hK _ _ ⟨⟨_, e0.alloc e0.size _⟩, rfl⟩ ?_
    clear hK K
    have e_q32 := e_q32.alloc e_q32.size (.cells #[.int .i64 0, .slice none 0 0, .slice none 0 0] 59)
    have e_q47 := e_q47.alloc e_q47.size (.cells #[.int .i64 0, .slice none 0 0, .slice none 0 0] 59)
    have e_q51 := e_q51.alloc e_q51.size (.cells #[.int .i64 0, .slice none 0 0, .slice none 0 0] 59)
    have e_q18 := e_q18.alloc e_q18.size (.cells #[.int .i64 0, .slice none 0 0, .slice none 0 0] 59)
    have bk : Blk (u6.alloc (.cells #[.int .i64 0, .slice none 0 0, .slice none 0 0] 59)) u6.heap.size 59 #[.int .i64 0, .slice none 0 0, .slice none 0 0] := Blk.new _ _ _
    have e0 := e0.alloc e0.size (.cells #[.int .i64 0, .slice none 0 0, .slice none 0 0] 59)
    repeat (first | (refine Mix.wpMix_read (by rfl) ?_; go_big_quiet_step (fail); refine wpQuiet_nil ?_) | (refine Mix.wpMix_pure (by rfl) ?_; go_big_quiet_step (fail); refine wpQuiet_nil ?_))
    have d0 := bk.cell 0; have f0 := bk.frozen 0
    simp at d0
    have d1 := bk.cell 1; have f1 := bk.frozen 1
    simp at d1
    have d2 := bk.cell 2; have f2 := bk.frozen 2
    simp at d2
    refine Mix.wpMix_tail (by rfl) (fun K hK => ?_)
    go_wp2_with fail
    refine hK _ _ ?_
    clear hK K
    repeat (first | (refine Mix.wpMix_read (by rfl) ?_; go_big_quiet_step (fail); refine wpQuiet_nil ?_) | (refine Mix.wpMix_pure (by rfl) ?_; go_big_quiet_step (fail); refine wpQuiet_nil ?_))
    (refine Mix.wpMix_nil ?_; try simp only [Exit.then])
    go_wp2_with fail
    go_meet
    have bk2 := (((bk.set_ 0 (.int .i64 (fatR sy0 st0 xs0 st1 hd1 at1 (its1.map It.xs) (jts1.map It.xs) xs1 xs2).1.1)).set_ 1 (.slice A11 n12 c13)).set_ 2 (.slice B14 m15 d16))
    refine ⟨u6.heap.size, A11, n12, c13, B14, m15, d16, rfl, rfl, (by have := bk2.cell 0; first | exact this | (simp; done) | simpa using this), (by have := bk2.cell 1; first | exact this | (simp; done) | simpa using this), (by have := bk2.cell 2; first | exact this | (simp; done) | simpa using this), ?_, l19, ?_, ?_⟩
    · first | exact (q18.alloc _).wider (by first | omega | exact Nat.le_refl _ | (simp; done) | (simp; omega)) (by first | omega | exact Nat.le_refl _ | (simp; done) | (simp; omega)) | exact (((q18.set_far (.inl (by first | omega | exact Nat.le_refl _ | (simp; done) | (simp; omega))) _).set_far (.inl (by first | omega | exact Nat.le_refl _ | (simp; done) | (simp; omega))) _).set_far (.inl (by first | omega | exact Nat.le_refl _ | (simp; done) | (simp; omega))) _).wider (by first | omega | exact Nat.le_refl _ | (simp; done) | (simp; omega)) (by first | omega | exact Nat.le_refl _ | (simp; done) | (simp; omega))
    · exact (by first | omega | exact Nat.le_refl _ | (simp; done) | (simp; omega))
    · first | exact (by have hzz := (e0).size; repeat' (first | (with_reducible exact e0) | (with_reducible refine Below.alloc ?_ ?_ _) | (with_reducible refine Below.setCell ?_ ?_ _) | (with_reducible refine below_drew ?_) | omega | (simp; done) | (simp; omega))) | exact (by have hzz := (e0p).size; repeat' (first | (with_reducible exact e0p) | (with_reducible refine Below.alloc ?_ ?_ _) | (with_reducible refine Below.setCell ?_ ?_ _) | (with_reducible refine below_drew ?_) | omega | (simp; done) | (simp; omega)))
  case rest =>
    obtain ⟨g17, A11, n12, c13, B14, m15, d16, rfl, rfl, nc0, nc1, nc2, q18, l19, hgg17, hb'⟩ := hcut
    obtain ⟨w3, rfl⟩ : ∃ w3 : World, w3 = wc := ⟨_, rfl⟩
    have z3 := hb'.size
    have hlg17 : g17 < w3.heap.size := World.block_lt_of_cell? w3 _ nc0
    have c3_a0_0 : w3.cell? ⟨w.heap.size, 0, none⟩ = some (.int .i64 sy0) := keepc hb' c2_a0_0
    clear c2_a0_0 ac2_a0_0
    have c3_a0_1 : w3.cell? ⟨w.heap.size, 1, none⟩ = some (.int .i64 st0) := keepc hb' c2_a0_1
    clear c2_a0_1 ac2_a0_1
    have c3_a0_2 : w3.cell? ⟨w.heap.size, 2, none⟩ = some (.slice A0 n0 c0) := keepc hb' c2_a0_2
    clear c2_a0_2 ac2_a0_2
    have c3_a1_0 : w3.cell? ⟨(w.heap.size + 1), 0, none⟩ = some (.int .i64 st1) := keepc hb' c2_a1_0
    clear c2_a1_0 ac2_a1_0
    have c3_a1_1 : w3.cell? ⟨(w.heap.size + 1), 1, none⟩ = some (.int .i64 hd1) := keepc hb' c2_a1_1
    clear c2_a1_1 ac2_a1_1
    have c3_a1_2 : w3.cell? ⟨(w.heap.size + 1), 2, none⟩ = some (.int .i64 at1) := keepc hb' c2_a1_2
    clear c2_a1_2 ac2_a1_2
    have c3_a1_3 : w3.cell? ⟨(w.heap.size + 1), 3, none⟩ = some (.slice A1 n1 c1) := keepc hb' c2_a1_3
    clear c2_a1_3 ac2_a1_3
    have c3_a1_4 : w3.cell? ⟨(w.heap.size + 1), 4, none⟩ = some (.slice B1 m1 d1) := keepc hb' c2_a1_4
    clear c2_a1_4 ac2_a1_4
    have c3_a1_5 : w3.cell? ⟨(w.heap.size + 1), 5, none⟩ = some (.slice C1 k1 e1) := keepc hb' c2_a1_5
    clear c2_a1_5 ac2_a1_5
    have c3_o52_0 := nc0; clear nc0
    have c3_o52_1 := nc1; clear nc1
    have c3_o52_2 := nc2; clear nc2
    have ac3_a0_0 := fun o => keepa o c3_a0_0
    have ac3_a0_1 := fun o => keepa o c3_a0_1
    have ac3_a0_2 := fun o => keepa o c3_a0_2
    have ac3_a1_0 := fun o => keepa o c3_a1_0
    have ac3_a1_1 := fun o => keepa o c3_a1_1
    have ac3_a1_2 := fun o => keepa o c3_a1_2
    have ac3_a1_3 := fun o => keepa o c3_a1_3
    have ac3_a1_4 := fun o => keepa o c3_a1_4
    have ac3_a1_5 := fun o => keepa o c3_a1_5
    have ac3_o52_0 := fun o => keepa o c3_o52_0
    have ac3_o52_1 := fun o => keepa o c3_o52_1
    have ac3_o52_2 := fun o => keepa o c3_o52_2
    have rP0 := P0.out.below hb'; clear P0; have P0 := Lib.hid rP0; clear rP0
    have rP1 := P1.out.below hb'; clear P1; have P1 := Lib.hid rP1; clear rP1
    have rP2 := P2.out.below hb'; clear P2; have P2 := Lib.hid rP2; clear rP2
    have rB := below_chain B.out (by omega) hb'; clear B; have B := Lib.hid rB; clear rB hb'
    have Fo52 := Lib.hid q18; clear q18
    go_wp2_with fail
    refine (toMachine_c _ _ _ _ _ _ _ (by exact (P0.out.rd)) (by omega)).mono ?_
    rintro e w4 ⟨g053, rfl, q4, hb⟩
    have hb' : Below w3.heap.size w3 w4 := (by first | (with_reducible exact hb) | (with_reducible exact up1 hb) | (with_reducible exact up2 hb) | (with_reducible exact up3 hb) | (with_reducible exact up4 hb) | (with_reducible exact below_of_drew hb) | (with_reducible exact below_of_drew (up1 hb)))
    have z4 := hb'.size
    have c4_a0_0 : w4.cell? ⟨w.heap.size, 0, none⟩ = some (.int .i64 sy0) := keepc hb' c3_a0_0
    clear c3_a0_0 ac3_a0_0
    have c4_a0_1 : w4.cell? ⟨w.heap.size, 1, none⟩ = some (.int .i64 st0) := keepc hb' c3_a0_1
    clear c3_a0_1 ac3_a0_1
    have c4_a0_2 : w4.cell? ⟨w.heap.size, 2, none⟩ = some (.slice A0 n0 c0) := keepc hb' c3_a0_2
    clear c3_a0_2 ac3_a0_2
    have c4_a1_0 : w4.cell? ⟨(w.heap.size + 1), 0, none⟩ = some (.int .i64 st1) := keepc hb' c3_a1_0
    clear c3_a1_0 ac3_a1_0
    have c4_a1_1 : w4.cell? ⟨(w.heap.size + 1), 1, none⟩ = some (.int .i64 hd1) := keepc hb' c3_a1_1
    clear c3_a1_1 ac3_a1_1
    have c4_a1_2 : w4.cell? ⟨(w.heap.size + 1), 2, none⟩ = some (.int .i64 at1) := keepc hb' c3_a1_2
    clear c3_a1_2 ac3_a1_2
    have c4_a1_3 : w4.cell? ⟨(w.heap.size + 1), 3, none⟩ = some (.slice A1 n1 c1) := keepc hb' c3_a1_3
    clear c3_a1_3 ac3_a1_3
    have c4_a1_4 : w4.cell? ⟨(w.heap.size + 1), 4, none⟩ = some (.slice B1 m1 d1) := keepc hb' c3_a1_4
    clear c3_a1_4 ac3_a1_4
    have c4_a1_5 : w4.cell? ⟨(w.heap.size + 1), 5, none⟩ = some (.slice C1 k1 e1) := keepc hb' c3_a1_5
    clear c3_a1_5 ac3_a1_5
    have c4_o52_0 : w4.cell? ⟨g17, 0, none⟩ = some (.int .i64 (fatR sy0 st0 xs0 st1 hd1 at1 (its1.map It.xs) (jts1.map It.xs) xs1 xs2).1.1) := keepc hb' c3_o52_0
    clear c3_o52_0 ac3_o52_0
    have c4_o52_1 : w4.cell? ⟨g17, 1, none⟩ = some (.slice A11 n12 c13) := keepc hb' c3_o52_1
    clear c3_o52_1 ac3_o52_1
    have c4_o52_2 : w4.cell? ⟨g17, 2, none⟩ = some (.slice B14 m15 d16) := keepc hb' c3_o52_2
    clear c3_o52_2 ac3_o52_2
    have ac4_a0_0 := fun o => keepa o c4_a0_0
    have ac4_a0_1 := fun o => keepa o c4_a0_1
    have ac4_a0_2 := fun o => keepa o c4_a0_2
    have ac4_a1_0 := fun o => keepa o c4_a1_0
    have ac4_a1_1 := fun o => keepa o c4_a1_1
    have ac4_a1_2 := fun o => keepa o c4_a1_2
    have ac4_a1_3 := fun o => keepa o c4_a1_3
    have ac4_a1_4 := fun o => keepa o c4_a1_4
    have ac4_a1_5 := fun o => keepa o c4_a1_5
    have ac4_o52_0 := fun o => keepa o c4_o52_0
    have ac4_o52_1 := fun o => keepa o c4_o52_1
    have ac4_o52_2 := fun o => keepa o c4_o52_2
    have rP0 := P0.out.below hb'; clear P0; have P0 := Lib.hid rP0; clear rP0
    have rP1 := P1.out.below hb'; clear P1; have P1 := Lib.hid rP1; clear rP1
    have rP2 := P2.out.below hb'; clear P2; have P2 := Lib.hid rP2; clear rP2
    have rFo52 := Fo52.out.below hb'; clear Fo52; have Fo52 := Lib.hid rFo52; clear rFo52
    have rB := below_chain B.out (by omega) hb'; clear B; have B := Lib.hid rB; clear rB
    have Fo54 := Lib.hid q4; clear q4
    clear hb hb'
    go_wp2_with fail
    refine (toFormula_c _ _ _ _ _ _ _ _ _ _ _ _ _ _ _ _ (by exact ((P1.out.rd).alloc _)) (by omega) (by omega) (by omega) hI0_a1 hI1_a1).mono ?_
    rintro e w5 ⟨g055, js056, g157, js158, g259, rfl, hx0_5, hx1_5, q5, hb⟩
    try simp only [World.size_alloc] at q5
    have hb' : Below w4.heap.size w4 w5 := (by first | (with_reducible exact hb) | (with_reducible exact up1 hb) | (with_reducible exact up2 hb) | (with_reducible exact up3 hb) | (with_reducible exact up4 hb) | (with_reducible exact below_of_drew hb) | (with_reducible exact below_of_drew (up1 hb)))
    have z5 := hb'.size
    have c5_a0_0 : w5.cell? ⟨w.heap.size, 0, none⟩ = some (.int .i64 sy0) := keepc hb' c4_a0_0
    clear c4_a0_0 ac4_a0_0
    have c5_a0_1 : w5.cell? ⟨w.heap.size, 1, none⟩ = some (.int .i64 st0) := keepc hb' c4_a0_1
    clear c4_a0_1 ac4_a0_1
    have c5_a0_2 : w5.cell? ⟨w.heap.size, 2, none⟩ = some (.slice A0 n0 c0) := keepc hb' c4_a0_2
    clear c4_a0_2 ac4_a0_2
    have c5_a1_0 : w5.cell? ⟨(w.heap.size + 1), 0, none⟩ = some (.int .i64 st1) := keepc hb' c4_a1_0
    clear c4_a1_0 ac4_a1_0
    have c5_a1_1 : w5.cell? ⟨(w.heap.size + 1), 1, none⟩ = some (.int .i64 hd1) := keepc hb' c4_a1_1
    clear c4_a1_1 ac4_a1_1
    have c5_a1_2 : w5.cell? ⟨(w.heap.size + 1), 2, none⟩ = some (.int .i64 at1) := keepc hb' c4_a1_2
    clear c4_a1_2 ac4_a1_2
    have c5_a1_3 : w5.cell? ⟨(w.heap.size + 1), 3, none⟩ = some (.slice A1 n1 c1) := keepc hb' c4_a1_3
    clear c4_a1_3 ac4_a1_3
    have c5_a1_4 : w5.cell? ⟨(w.heap.size + 1), 4, none⟩ = some (.slice B1 m1 d1) := keepc hb' c4_a1_4
    clear c4_a1_4 ac4_a1_4
    have c5_a1_5 : w5.cell? ⟨(w.heap.size + 1), 5, none⟩ = some (.slice C1 k1 e1) := keepc hb' c4_a1_5
    clear c4_a1_5 ac4_a1_5
    have c5_o52_0 : w5.cell? ⟨g17, 0, none⟩ = some (.int .i64 (fatR sy0 st0 xs0 st1 hd1 at1 (its1.map It.xs) (jts1.map It.xs) xs1 xs2).1.1) := keepc hb' c4_o52_0
    clear c4_o52_0 ac4_o52_0
    have c5_o52_1 : w5.cell? ⟨g17, 1, none⟩ = some (.slice A11 n12 c13) := keepc hb' c4_o52_1
    clear c4_o52_1 ac4_o52_1
    have c5_o52_2 : w5.cell? ⟨g17, 2, none⟩ = some (.slice B14 m15 d16) := keepc hb' c4_o52_2
    clear c4_o52_2 ac4_o52_2
    have c5_o54_0 : w5.cell? ⟨w4.heap.size, 0, none⟩ = some (.int .i64 sy0) := keepc hb (by first | (simp; done) | (rw [World.cell?_alloc_past _ _ _ (by simp <;> omega)]; simp; done) | (rw [World.cell?_alloc_past _ _ _ (by simp <;> omega), World.cell?_alloc_past _ _ _ (by simp <;> omega)]; simp; done) | (rw [World.cell?_alloc_past _ _ _ (by simp <;> omega), World.cell?_alloc_past _ _ _ (by simp <;> omega), World.cell?_alloc_past _ _ _ (by simp <;> omega)]; simp; done) | (rw [World.cell?_alloc_at _ _ _ _ (by simp)]; simp; done) | (rw [World.cell?_alloc_past _ _ _ (by simp <;> omega), World.cell?_alloc_at _ _ _ _ (by simp)]; simp; done) | (rw [World.cell?_alloc_past _ _ _ (by simp <;> omega), World.cell?_alloc_past _ _ _ (by simp <;> omega), World.cell?_alloc_at _ _ _ _ (by simp)]; simp; done) | (rw [World.cell?_alloc_past _ _ _ (by simp <;> omega), World.cell?_alloc_past _ _ _ (by simp <;> omega), World.cell?_alloc_past _ _ _ (by simp <;> omega), World.cell?_alloc_at _ _ _ _ (by simp)]; simp; done))
    have hl_c5_o54_0 : w4.heap.size < w5.heap.size := World.block_lt_of_cell? w5 _ c5_o54_0
    have c5_o54_1 : w5.cell? ⟨w4.heap.size, 1, none⟩ = some (.int .i64 st0) := keepc hb (by first | (simp; done) | (rw [World.cell?_alloc_past _ _ _ (by simp <;> omega)]; simp; done) | (rw [World.cell?_alloc_past _ _ _ (by simp <;> omega), World.cell?_alloc_past _ _ _ (by simp <;> omega)]; simp; done) | (rw [World.cell?_alloc_past _ _ _ (by simp <;> omega), World.cell?_alloc_past _ _ _ (by simp <;> omega), World.cell?_alloc_past _ _ _ (by simp <;> omega)]; simp; done) | (rw [World.cell?_alloc_at _ _ _ _ (by simp)]; simp; done) | (rw [World.cell?_alloc_past _ _ _ (by simp <;> omega), World.cell?_alloc_at _ _ _ _ (by simp)]; simp; done) | (rw [World.cell?_alloc_past _ _ _ (by simp <;> omega), World.cell?_alloc_past _ _ _ (by simp <;> omega), World.cell?_alloc_at _ _ _ _ (by simp)]; simp; done) | (rw [World.cell?_alloc_past _ _ _ (by simp <;> omega), World.cell?_alloc_past _ _ _ (by simp <;> omega), World.cell?_alloc_past _ _ _ (by simp <;> omega), World.cell?_alloc_at _ _ _ _ (by simp)]; simp; done))
    have c5_o54_2 : w5.cell? ⟨w4.heap.size, 2, none⟩ = some (.slice (some ⟨g053, 0, none⟩) n0 n0) := keepc hb (by first | (simp; done) | (rw [World.cell?_alloc_past _ _ _ (by simp <;> omega)]; simp; done) | (rw [World.cell?_alloc_past _ _ _ (by simp <;> omega), World.cell?_alloc_past _ _ _ (by simp <;> omega)]; simp; done) | (rw [World.cell?_alloc_past _ _ _ (by simp <;> omega), World.cell?_alloc_past _ _ _ (by simp <;> omega), World.cell?_alloc_past _ _ _ (by simp <;> omega)]; simp; done) | (rw [World.cell?_alloc_at _ _ _ _ (by simp)]; simp; done) | (rw [World.cell?_alloc_past _ _ _ (by simp <;> omega), World.cell?_alloc_at _ _ _ _ (by simp)]; simp; done) | (rw [World.cell?_alloc_past _ _ _ (by simp <;> omega), World.cell?_alloc_past _ _ _ (by simp <;> omega), World.cell?_alloc_at _ _ _ _ (by simp)]; simp; done) | (rw [World.cell?_alloc_past _ _ _ (by simp <;> omega), World.cell?_alloc_past _ _ _ (by simp <;> omega), World.cell?_alloc_past _ _ _ (by simp <;> omega), World.cell?_alloc_at _ _ _ _ (by simp)]; simp; done))
    have ac5_a0_0 := fun o => keepa o c5_a0_0
    have ac5_a0_1 := fun o => keepa o c5_a0_1
    have ac5_a0_2 := fun o => keepa o c5_a0_2
    have ac5_a1_0 := fun o => keepa o c5_a1_0
    have ac5_a1_1 := fun o => keepa o c5_a1_1
    have ac5_a1_2 := fun o => keepa o c5_a1_2
    have ac5_a1_3 := fun o => keepa o c5_a1_3
    have ac5_a1_4 := fun o => keepa o c5_a1_4
    have ac5_a1_5 := fun o => keepa o c5_a1_5
    have ac5_o52_0 := fun o => keepa o c5_o52_0
    have ac5_o52_1 := fun o => keepa o c5_o52_1
    have ac5_o52_2 := fun o => keepa o c5_o52_2
    have ac5_o54_0 := fun o => keepa o c5_o54_0
    have ac5_o54_1 := fun o => keepa o c5_o54_1
    have ac5_o54_2 := fun o => keepa o c5_o54_2
    have rP0 := P0.out.below hb'; clear P0; have P0 := Lib.hid rP0; clear rP0
    have rP1 := P1.out.below hb'; clear P1; have P1 := Lib.hid rP1; clear rP1
    have rP2 := P2.out.below hb'; clear P2; have P2 := Lib.hid rP2; clear rP2
    have rFo52 := Fo52.out.below hb'; clear Fo52; have Fo52 := Lib.hid rFo52; clear rFo52
    have rFo54 := Fo54.out.below hb'; clear Fo54; have Fo54 := Lib.hid rFo54; clear rFo54
    have rB := below_chain B.out (by omega) hb'; clear B; have B := Lib.hid rB; clear rB
    have Fo60 := Lib.hid q5; clear q5
    have hm0_o60 := hx0_5
    have hI0_o60 : ∀ t ∈ js056, t.n ≤ 1000000000 := hi_of ((P1.out.rd).left.left) ((Fo60.out.rd).left.left) hx0_5 hI0_a1
    have hSm0_o60 : sumN js056 ≤ sumN its1 := sum_of ((P1.out.rd).left.left) ((Fo60.out.rd).left.left) hx0_5
    have hm1_o60 := hx1_5
    have hI1_o60 : ∀ t ∈ js158, t.n ≤ 1000000000 := hi_of ((P1.out.rd).left.right) ((Fo60.out.rd).left.right) hx1_5 hI1_a1
    have hSm1_o60 : sumN js158 ≤ sumN jts1 := sum_of ((P1.out.rd).left.right) ((Fo60.out.rd).left.right) hx1_5
    clear hb hb'
    go_wp2_with fail
    refine (toInt64S_c _ _ _ _ _ (by exact ((P2.out.1).alloc _)) (by omega)).mono ?_
    rintro e w6 ⟨rfl, q6, hb⟩
    try simp only [World.size_alloc] at q6
    have hb' : Below w5.heap.size w5 w6 := (by first | (with_reducible exact hb) | (with_reducible exact up1 hb) | (with_reducible exact up2 hb) | (with_reducible exact up3 hb) | (with_reducible exact up4 hb) | (with_reducible exact below_of_drew hb) | (with_reducible exact below_of_drew (up1 hb)))
    have z6 := hb'.size
    have c6_a0_0 : w6.cell? ⟨w.heap.size, 0, none⟩ = some (.int .i64 sy0) := keepc hb' c5_a0_0
    clear c5_a0_0 ac5_a0_0
    have c6_a0_1 : w6.cell? ⟨w.heap.size, 1, none⟩ = some (.int .i64 st0) := keepc hb' c5_a0_1
    clear c5_a0_1 ac5_a0_1
    have c6_a0_2 : w6.cell? ⟨w.heap.size, 2, none⟩ = some (.slice A0 n0 c0) := keepc hb' c5_a0_2
    clear c5_a0_2 ac5_a0_2
    have c6_a1_0 : w6.cell? ⟨(w.heap.size + 1), 0, none⟩ = some (.int .i64 st1) := keepc hb' c5_a1_0
    clear c5_a1_0 ac5_a1_0
    have c6_a1_1 : w6.cell? ⟨(w.heap.size + 1), 1, none⟩ = some (.int .i64 hd1) := keepc hb' c5_a1_1
    clear c5_a1_1 ac5_a1_1
    have c6_a1_2 : w6.cell? ⟨(w.heap.size + 1), 2, none⟩ = some (.int .i64 at1) := keepc hb' c5_a1_2
    clear c5_a1_2 ac5_a1_2
    have c6_a1_3 : w6.cell? ⟨(w.heap.size + 1), 3, none⟩ = some (.slice A1 n1 c1) := keepc hb' c5_a1_3
    clear c5_a1_3 ac5_a1_3
    have c6_a1_4 : w6.cell? ⟨(w.heap.size + 1), 4, none⟩ = some (.slice B1 m1 d1) := keepc hb' c5_a1_4
    clear c5_a1_4 ac5_a1_4
    have c6_a1_5 : w6.cell? ⟨(w.heap.size + 1), 5, none⟩ = some (.slice C1 k1 e1) := keepc hb' c5_a1_5
    clear c5_a1_5 ac5_a1_5
    have c6_o52_0 : w6.cell? ⟨g17, 0, none⟩ = some (.int .i64 (fatR sy0 st0 xs0 st1 hd1 at1 (its1.map It.xs) (jts1.map It.xs) xs1 xs2).1.1) := keepc hb' c5_o52_0
    clear c5_o52_0 ac5_o52_0
    have c6_o52_1 : w6.cell? ⟨g17, 1, none⟩ = some (.slice A11 n12 c13) := keepc hb' c5_o52_1
    clear c5_o52_1 ac5_o52_1
    have c6_o52_2 : w6.cell? ⟨g17, 2, none⟩ = some (.slice B14 m15 d16) := keepc hb' c5_o52_2
    clear c5_o52_2 ac5_o52_2
    have c6_o54_0 : w6.cell? ⟨w4.heap.size, 0, none⟩ = some (.int .i64 sy0) := keepc hb' c5_o54_0
    clear c5_o54_0 ac5_o54_0
    have c6_o54_1 : w6.cell? ⟨w4.heap.size, 1, none⟩ = some (.int .i64 st0) := keepc hb' c5_o54_1
    clear c5_o54_1 ac5_o54_1
    have c6_o54_2 : w6.cell? ⟨w4.heap.size, 2, none⟩ = some (.slice (some ⟨g053, 0, none⟩) n0 n0) := keepc hb' c5_o54_2
    clear c5_o54_2 ac5_o54_2
    have c6_o60_0 : w6.cell? ⟨w5.heap.size, 0, none⟩ = some (.int .i64 st1) := keepc hb (by first | (simp; done) | (rw [World.cell?_alloc_past _ _ _ (by simp <;> omega)]; simp; done) | (rw [World.cell?_alloc_past _ _ _ (by simp <;> omega), World.cell?_alloc_past _ _ _ (by simp <;> omega)]; simp; done) | (rw [World.cell?_alloc_past _ _ _ (by simp <;> omega), World.cell?_alloc_past _ _ _ (by simp <;> omega), World.cell?_alloc_past _ _ _ (by simp <;> omega)]; simp; done) | (rw [World.cell?_alloc_at _ _ _ _ (by simp)]; simp; done) | (rw [World.cell?_alloc_past _ _ _ (by simp <;> omega), World.cell?_alloc_at _ _ _ _ (by simp)]; simp; done) | (rw [World.cell?_alloc_past _ _ _ (by simp <;> omega), World.cell?_alloc_past _ _ _ (by simp <;> omega), World.cell?_alloc_at _ _ _ _ (by simp)]; simp; done) | (rw [World.cell?_alloc_past _ _ _ (by simp <;> omega), World.cell?_alloc_past _ _ _ (by simp <;> omega), World.cell?_alloc_past _ _ _ (by simp <;> omega), World.cell?_alloc_at _ _ _ _ (by simp)]; simp; done))
    have hl_c6_o60_0 : w5.heap.size < w6.heap.size := World.block_lt_of_cell? w6 _ c6_o60_0
    have c6_o60_1 : w6.cell? ⟨w5.heap.size, 1, none⟩ = some (.int .i64 hd1) := keepc hb (by first | (simp; done) | (rw [World.cell?_alloc_past _ _ _ (by simp <;> omega)]; simp; done) | (rw [World.cell?_alloc_past _ _ _ (by simp <;> omega), World.cell?_alloc_past _ _ _ (by simp <;> omega)]; simp; done) | (rw [World.cell?_alloc_past _ _ _ (by simp <;> omega), World.cell?_alloc_past _ _ _ (by simp <;> omega), World.cell?_alloc_past _ _ _ (by simp <;> omega)]; simp; done) | (rw [World.cell?_alloc_at _ _ _ _ (by simp)]; simp; done) | (rw [World.cell?_alloc_past _ _ _ (by simp <;> omega), World.cell?_alloc_at _ _ _ _ (by simp)]; simp; done) | (rw [World.cell?_alloc_past _ _ _ (by simp <;> omega), World.cell?_alloc_past _ _ _ (by simp <;> omega), World.cell?_alloc_at _ _ _ _ (by simp)]; simp; done) | (rw [World.cell?_alloc_past _ _ _ (by simp <;> omega), World.cell?_alloc_past _ _ _ (by simp <;> omega), World.cell?_alloc_past _ _ _ (by simp <;> omega), World.cell?_alloc_at _ _ _ _ (by simp)]; simp; done))
    have c6_o60_2 : w6.cell? ⟨w5.heap.size, 2, none⟩ = some (.int .i64 at1) := keepc hb (by first | (simp; done) | (rw [World.cell?_alloc_past _ _ _ (by simp <;> omega)]; simp; done) | (rw [World.cell?_alloc_past _ _ _ (by simp <;> omega), World.cell?_alloc_past _ _ _ (by simp <;> omega)]; simp; done) | (rw [World.cell?_alloc_past _ _ _ (by simp <;> omega), World.cell?_alloc_past _ _ _ (by simp <;> omega), World.cell?_alloc_past _ _ _ (by simp <;> omega)]; simp; done) | (rw [World.cell?_alloc_at _ _ _ _ (by simp)]; simp; done) | (rw [World.cell?_alloc_past _ _ _ (by simp <;> omega), World.cell?_alloc_at _ _ _ _ (by simp)]; simp; done) | (rw [World.cell?_alloc_past _ _ _ (by simp <;> omega), World.cell?_alloc_past _ _ _ (by simp <;> omega), World.cell?_alloc_at _ _ _ _ (by simp)]; simp; done) | (rw [World.cell?_alloc_past _ _ _ (by simp <;> omega), World.cell?_alloc_past _ _ _ (by simp <;> omega), World.cell?_alloc_past _ _ _ (by simp <;> omega), World.cell?_alloc_at _ _ _ _ (by simp)]; simp; done))
    have c6_o60_3 : w6.cell? ⟨w5.heap.size, 3, none⟩ = some (.slice (some ⟨g055, 0, none⟩) n1 n1) := keepc hb (by first | (simp; done) | (rw [World.cell?_alloc_past _ _ _ (by simp <;> omega)]; simp; done) | (rw [World.cell?_alloc_past _ _ _ (by simp <;> omega), World.cell?_alloc_past _ _ _ (by simp <;> omega)]; simp; done) | (rw [World.cell?_alloc_past _ _ _ (by simp <;> omega), World.cell?_alloc_past _ _ _ (by simp <;> omega), World.cell?_alloc_past _ _ _ (by simp <;> omega)]; simp; done) | (rw [World.cell?_alloc_at _ _ _ _ (by simp)]; simp; done) | (rw [World.cell?_alloc_past _ _ _ (by simp <;> omega), World.cell?_alloc_at _ _ _ _ (by simp)]; simp; done) | (rw [World.cell?_alloc_past _ _ _ (by simp <;> omega), World.cell?_alloc_past _ _ _ (by simp <;> omega), World.cell?_alloc_at _ _ _ _ (by simp)]; simp; done) | (rw [World.cell?_alloc_past _ _ _ (by simp <;> omega), World.cell?_alloc_past _ _ _ (by simp <;> omega), World.cell?_alloc_past _ _ _ (by simp <;> omega), World.cell?_alloc_at _ _ _ _ (by simp)]; simp; done))
    have c6_o60_4 : w6.cell? ⟨w5.heap.size, 4, none⟩ = some (.slice (some ⟨g157, 0, none⟩) m1 m1) := keepc hb (by first | (simp; done) | (rw [World.cell?_alloc_past _ _ _ (by simp <;> omega)]; simp; done) | (rw [World.cell?_alloc_past _ _ _ (by simp <;> omega), World.cell?_alloc_past _ _ _ (by simp <;> omega)]; simp; done) | (rw [World.cell?_alloc_past _ _ _ (by simp <;> omega), World.cell?_alloc_past _ _ _ (by simp <;> omega), World.cell?_alloc_past _ _ _ (by simp <;> omega)]; simp; done) | (rw [World.cell?_alloc_at _ _ _ _ (by simp)]; simp; done) | (rw [World.cell?_alloc_past _ _ _ (by simp <;> omega), World.cell?_alloc_at _ _ _ _ (by simp)]; simp; done) | (rw [World.cell?_alloc_past _ _ _ (by simp <;> omega), World.cell?_alloc_past _ _ _ (by simp <;> omega), World.cell?_alloc_at _ _ _ _ (by simp)]; simp; done) | (rw [World.cell?_alloc_past _ _ _ (by simp <;> omega), World.cell?_alloc_past _ _ _ (by simp <;> omega), World.cell?_alloc_past _ _ _ (by simp <;> omega), World.cell?_alloc_at _ _ _ _ (by simp)]; simp; done))
    have c6_o60_5 : w6.cell? ⟨w5.heap.size, 5, none⟩ = some (.slice (some ⟨g259, 0, none⟩) k1 k1) := keepc hb (by first | (simp; done) | (rw [World.cell?_alloc_past _ _ _ (by simp <;> omega)]; simp; done) | (rw [World.cell?_alloc_past _ _ _ (by simp <;> omega), World.cell?_alloc_past _ _ _ (by simp <;> omega)]; simp; done) | (rw [World.cell?_alloc_past _ _ _ (by simp <;> omega), World.cell?_alloc_past _ _ _ (by simp <;> omega), World.cell?_alloc_past _ _ _ (by simp <;> omega)]; simp; done) | (rw [World.cell?_alloc_at _ _ _ _ (by simp)]; simp; done) | (rw [World.cell?_alloc_past _ _ _ (by simp <;> omega), World.cell?_alloc_at _ _ _ _ (by simp)]; simp; done) | (rw [World.cell?_alloc_past _ _ _ (by simp <;> omega), World.cell?_alloc_past _ _ _ (by simp <;> omega), World.cell?_alloc_at _ _ _ _ (by simp)]; simp; done) | (rw [World.cell?_alloc_past _ _ _ (by simp <;> omega), World.cell?_alloc_past _ _ _ (by simp <;> omega), World.cell?_alloc_past _ _ _ (by simp <;> omega), World.cell?_alloc_at _ _ _ _ (by simp)]; simp; done))
    have ac6_a0_0 := fun o => keepa o c6_a0_0
    have ac6_a0_1 := fun o => keepa o c6_a0_1
    have ac6_a0_2 := fun o => keepa o c6_a0_2
    have ac6_a1_0 := fun o => keepa o c6_a1_0
    have ac6_a1_1 := fun o => keepa o c6_a1_1
    have ac6_a1_2 := fun o => keepa o c6_a1_2
    have ac6_a1_3 := fun o => keepa o c6_a1_3
    have ac6_a1_4 := fun o => keepa o c6_a1_4
    have ac6_a1_5 := fun o => keepa o c6_a1_5
    have ac6_o52_0 := fun o => keepa o c6_o52_0
    have ac6_o52_1 := fun o => keepa o c6_o52_1
    have ac6_o52_2 := fun o => keepa o c6_o52_2
    have ac6_o54_0 := fun o => keepa o c6_o54_0
    have ac6_o54_1 := fun o => keepa o c6_o54_1
    have ac6_o54_2 := fun o => keepa o c6_o54_2
    have ac6_o60_0 := fun o => keepa o c6_o60_0
    have ac6_o60_1 := fun o => keepa o c6_o60_1
    have ac6_o60_2 := fun o => keepa o c6_o60_2
    have ac6_o60_3 := fun o => keepa o c6_o60_3
    have ac6_o60_4 := fun o => keepa o c6_o60_4
    have ac6_o60_5 := fun o => keepa o c6_o60_5
    have rP0 := P0.out.below hb'; clear P0; have P0 := Lib.hid rP0; clear rP0
    have rP1 := P1.out.below hb'; clear P1; have P1 := Lib.hid rP1; clear rP1
    have rP2 := P2.out.below hb'; clear P2; have P2 := Lib.hid rP2; clear rP2
    have rFo52 := Fo52.out.below hb'; clear Fo52; have Fo52 := Lib.hid rFo52; clear rFo52
    have rFo54 := Fo54.out.below hb'; clear Fo54; have Fo54 := Lib.hid rFo54; clear rFo54
    have rFo60 := Fo60.out.below hb'; clear Fo60; have Fo60 := Lib.hid rFo60; clear rFo60
    have rB := below_chain B.out (by omega) hb'; clear B; have B := Lib.hid rB; clear rB
    have Fo61 := Lib.hid q6; clear q6
    clear hb hb'
    go_wp2_with fail
    refine (iFormulaAt_c _ _ _ _ _ _ _ _ _ _ _ _ _ _ _ _ _ _ _ _ _ _ _ _ _ _ (by exact (Fo54.out.rd)) (by exact (Fo60.out.rd)) (by exact (Fo61.out.rdI)) (by omega) (by omega) (by omega) (by omega) (by omega) hI0_o60 hI1_o60 hm0_o60 hm1_o60).mono ?_
    rintro e w7 ⟨A62, n63, c64, B65, m66, d67, rfl, q68, l69, hb⟩
    have hb' : Below w6.heap.size w6 w7 := (by first | (with_reducible exact hb) | (with_reducible exact up1 hb) | (with_reducible exact up2 hb) | (with_reducible exact up3 hb) | (with_reducible exact up4 hb) | (with_reducible exact below_of_drew hb) | (with_reducible exact below_of_drew (up1 hb)))
    have z7 := hb'.size
    have c7_a0_0 : w7.cell? ⟨w.heap.size, 0, none⟩ = some (.int .i64 sy0) := keepc hb' c6_a0_0
    clear c6_a0_0 ac6_a0_0
    have c7_a0_1 : w7.cell? ⟨w.heap.size, 1, none⟩ = some (.int .i64 st0) := keepc hb' c6_a0_1
    clear c6_a0_1 ac6_a0_1
    have c7_a0_2 : w7.cell? ⟨w.heap.size, 2, none⟩ = some (.slice A0 n0 c0) := keepc hb' c6_a0_2
    clear c6_a0_2 ac6_a0_2
    have c7_a1_0 : w7.cell? ⟨(w.heap.size + 1), 0, none⟩ = some (.int .i64 st1) := keepc hb' c6_a1_0
    clear c6_a1_0 ac6_a1_0
    have c7_a1_1 : w7.cell? ⟨(w.heap.size + 1), 1, none⟩ = some (.int .i64 hd1) := keepc hb' c6_a1_1
    clear c6_a1_1 ac6_a1_1
    have c7_a1_2 : w7.cell? ⟨(w.heap.size + 1), 2, none⟩ = some (.int .i64 at1) := keepc hb' c6_a1_2
    clear c6_a1_2 ac6_a1_2
    have c7_a1_3 : w7.cell? ⟨(w.heap.size + 1), 3, none⟩ = some (.slice A1 n1 c1) := keepc hb' c6_a1_3
    clear c6_a1_3 ac6_a1_3
    have c7_a1_4 : w7.cell? ⟨(w.heap.size + 1), 4, none⟩ = some (.slice B1 m1 d1) := keepc hb' c6_a1_4
    clear c6_a1_4 ac6_a1_4
    have c7_a1_5 : w7.cell? ⟨(w.heap.size + 1), 5, none⟩ = some (.slice C1 k1 e1) := keepc hb' c6_a1_5
    clear c6_a1_5 ac6_a1_5
    have c7_o52_0 : w7.cell? ⟨g17, 0, none⟩ = some (.int .i64 (fatR sy0 st0 xs0 st1 hd1 at1 (its1.map It.xs) (jts1.map It.xs) xs1 xs2).1.1) := keepc hb' c6_o52_0
    clear c6_o52_0 ac6_o52_0
    have c7_o52_1 : w7.cell? ⟨g17, 1, none⟩ = some (.slice A11 n12 c13) := keepc hb' c6_o52_1
    clear c6_o52_1 ac6_o52_1
    have c7_o52_2 : w7.cell? ⟨g17, 2, none⟩ = some (.slice B14 m15 d16) := keepc hb' c6_o52_2
    clear c6_o52_2 ac6_o52_2
    have c7_o54_0 : w7.cell? ⟨w4.heap.size, 0, none⟩ = some (.int .i64 sy0) := keepc hb' c6_o54_0
    clear c6_o54_0 ac6_o54_0
    have c7_o54_1 : w7.cell? ⟨w4.heap.size, 1, none⟩ = some (.int .i64 st0) := keepc hb' c6_o54_1
    clear c6_o54_1 ac6_o54_1
    have c7_o54_2 : w7.cell? ⟨w4.heap.size, 2, none⟩ = some (.slice (some ⟨g053, 0, none⟩) n0 n0) := keepc hb' c6_o54_2
    clear c6_o54_2 ac6_o54_2
    have c7_o60_0 : w7.cell? ⟨w5.heap.size, 0, none⟩ = some (.int .i64 st1) := keepc hb' c6_o60_0
    clear c6_o60_0 ac6_o60_0
    have c7_o60_1 : w7.cell? ⟨w5.heap.size, 1, none⟩ = some (.int .i64 hd1) := keepc hb' c6_o60_1
    clear c6_o60_1 ac6_o60_1
    have c7_o60_2 : w7.cell? ⟨w5.heap.size, 2, none⟩ = some (.int .i64 at1) := keepc hb' c6_o60_2
    clear c6_o60_2 ac6_o60_2
    have c7_o60_3 : w7.cell? ⟨w5.heap.size, 3, none⟩ = some (.slice (some ⟨g055, 0, none⟩) n1 n1) := keepc hb' c6_o60_3
    clear c6_o60_3 ac6_o60_3
    have c7_o60_4 : w7.cell? ⟨w5.heap.size, 4, none⟩ = some (.slice (some ⟨g157, 0, none⟩) m1 m1) := keepc hb' c6_o60_4
    clear c6_o60_4 ac6_o60_4
    have c7_o60_5 : w7.cell? ⟨w5.heap.size, 5, none⟩ = some (.slice (some ⟨g259, 0, none⟩) k1 k1) := keepc hb' c6_o60_5
    clear c6_o60_5 ac6_o60_5
    have ac7_a0_0 := fun o => keepa o c7_a0_0
    have ac7_a0_1 := fun o => keepa o c7_a0_1
    have ac7_a0_2 := fun o => keepa o c7_a0_2
    have ac7_a1_0 := fun o => keepa o c7_a1_0
    have ac7_a1_1 := fun o => keepa o c7_a1_1
    have ac7_a1_2 := fun o => keepa o c7_a1_2
    have ac7_a1_3 := fun o => keepa o c7_a1_3
    have ac7_a1_4 := fun o => keepa o c7_a1_4
    have ac7_a1_5 := fun o => keepa o c7_a1_5
    have ac7_o52_0 := fun o => keepa o c7_o52_0
    have ac7_o52_1 := fun o => keepa o c7_o52_1
    have ac7_o52_2 := fun o => keepa o c7_o52_2
    have ac7_o54_0 := fun o => keepa o c7_o54_0
    have ac7_o54_1 := fun o => keepa o c7_o54_1
    have ac7_o54_2 := fun o => keepa o c7_o54_2
    have ac7_o60_0 := fun o => keepa o c7_o60_0
    have ac7_o60_1 := fun o => keepa o c7_o60_1
    have ac7_o60_2 := fun o => keepa o c7_o60_2
    have ac7_o60_3 := fun o => keepa o c7_o60_3
    have ac7_o60_4 := fun o => keepa o c7_o60_4
    have ac7_o60_5 := fun o => keepa o c7_o60_5
    have rP0 := P0.out.below hb'; clear P0; have P0 := Lib.hid rP0; clear rP0
    have rP1 := P1.out.below hb'; clear P1; have P1 := Lib.hid rP1; clear rP1
    have rP2 := P2.out.below hb'; clear P2; have P2 := Lib.hid rP2; clear rP2
    have rFo52 := Fo52.out.below hb'; clear Fo52; have Fo52 := Lib.hid rFo52; clear rFo52
    have rFo54 := Fo54.out.below hb'; clear Fo54; have Fo54 := Lib.hid rFo54; clear rFo54
    have rFo60 := Fo60.out.below hb'; clear Fo60; have Fo60 := Lib.hid rFo60; clear rFo60
    have rFo61 := Fo61.out.below hb'; clear Fo61; have Fo61 := Lib.hid rFo61; clear rFo61
    have rB := below_chain B.out (by omega) hb'; clear B; have B := Lib.hid rB; clear rB
    have Fo70 := Lib.hid q68; clear q68
    clear hb hb'
    go_wp2_with fail
    refine (eqConfig_t _ _ _ _ _ _ _ _ _ _ _ _ _ _ _ _ (by exact ((Fo70.out.rd).alloc _)) (by exact ((Fo52.out.rd).alloc _)) (by omega) (by omega)).mono ?_
    rintro e w8 ⟨rfl, hb⟩
    have hb' : Below w7.heap.size w7 w8 := (by first | (with_reducible exact hb) | (with_reducible exact up1 hb) | (with_reducible exact up2 hb) | (with_reducible exact up3 hb) | (with_reducible exact up4 hb) | (with_reducible exact below_of_drew hb) | (with_reducible exact below_of_drew (up1 hb)))
    have z8 := hb'.size
    have c8_a0_0 : w8.cell? ⟨w.heap.size, 0, none⟩ = some (.int .i64 sy0) := keepc hb' c7_a0_0
    clear c7_a0_0 ac7_a0_0
    have c8_a0_1 : w8.cell? ⟨w.heap.size, 1, none⟩ = some (.int .i64 st0) := keepc hb' c7_a0_1
    clear c7_a0_1 ac7_a0_1
    have c8_a0_2 : w8.cell? ⟨w.heap.size, 2, none⟩ = some (.slice A0 n0 c0) := keepc hb' c7_a0_2
    clear c7_a0_2 ac7_a0_2
    have c8_a1_0 : w8.cell? ⟨(w.heap.size + 1), 0, none⟩ = some (.int .i64 st1) := keepc hb' c7_a1_0
    clear c7_a1_0 ac7_a1_0
    have c8_a1_1 : w8.cell? ⟨(w.heap.size + 1), 1, none⟩ = some (.int .i64 hd1) := keepc hb' c7_a1_1
    clear c7_a1_1 ac7_a1_1
    have c8_a1_2 : w8.cell? ⟨(w.heap.size + 1), 2, none⟩ = some (.int .i64 at1) := keepc hb' c7_a1_2
    clear c7_a1_2 ac7_a1_2
    have c8_a1_3 : w8.cell? ⟨(w.heap.size + 1), 3, none⟩ = some (.slice A1 n1 c1) := keepc hb' c7_a1_3
    clear c7_a1_3 ac7_a1_3
    have c8_a1_4 : w8.cell? ⟨(w.heap.size + 1), 4, none⟩ = some (.slice B1 m1 d1) := keepc hb' c7_a1_4
    clear c7_a1_4 ac7_a1_4
    have c8_a1_5 : w8.cell? ⟨(w.heap.size + 1), 5, none⟩ = some (.slice C1 k1 e1) := keepc hb' c7_a1_5
    clear c7_a1_5 ac7_a1_5
    have c8_o52_0 : w8.cell? ⟨g17, 0, none⟩ = some (.int .i64 (fatR sy0 st0 xs0 st1 hd1 at1 (its1.map It.xs) (jts1.map It.xs) xs1 xs2).1.1) := keepc hb' c7_o52_0
    clear c7_o52_0 ac7_o52_0
    have c8_o52_1 : w8.cell? ⟨g17, 1, none⟩ = some (.slice A11 n12 c13) := keepc hb' c7_o52_1
    clear c7_o52_1 ac7_o52_1
    have c8_o52_2 : w8.cell? ⟨g17, 2, none⟩ = some (.slice B14 m15 d16) := keepc hb' c7_o52_2
    clear c7_o52_2 ac7_o52_2
    have c8_o54_0 : w8.cell? ⟨w4.heap.size, 0, none⟩ = some (.int .i64 sy0) := keepc hb' c7_o54_0
    clear c7_o54_0 ac7_o54_0
    have c8_o54_1 : w8.cell? ⟨w4.heap.size, 1, none⟩ = some (.int .i64 st0) := keepc hb' c7_o54_1
    clear c7_o54_1 ac7_o54_1
    have c8_o54_2 : w8.cell? ⟨w4.heap.size, 2, none⟩ = some (.slice (some ⟨g053, 0, none⟩) n0 n0) := keepc hb' c7_o54_2
    clear c7_o54_2 ac7_o54_2
    have c8_o60_0 : w8.cell? ⟨w5.heap.size, 0, none⟩ = some (.int .i64 st1) := keepc hb' c7_o60_0
    clear c7_o60_0 ac7_o60_0
    have c8_o60_1 : w8.cell? ⟨w5.heap.size, 1, none⟩ = some (.int .i64 hd1) := keepc hb' c7_o60_1
    clear c7_o60_1 ac7_o60_1
    have c8_o60_2 : w8.cell? ⟨w5.heap.size, 2, none⟩ = some (.int .i64 at1) := keepc hb' c7_o60_2
    clear c7_o60_2 ac7_o60_2
    have c8_o60_3 : w8.cell? ⟨w5.heap.size, 3, none⟩ = some (.slice (some ⟨g055, 0, none⟩) n1 n1) := keepc hb' c7_o60_3
    clear c7_o60_3 ac7_o60_3
    have c8_o60_4 : w8.cell? ⟨w5.heap.size, 4, none⟩ = some (.slice (some ⟨g157, 0, none⟩) m1 m1) := keepc hb' c7_o60_4
    clear c7_o60_4 ac7_o60_4
    have c8_o60_5 : w8.cell? ⟨w5.heap.size, 5, none⟩ = some (.slice (some ⟨g259, 0, none⟩) k1 k1) := keepc hb' c7_o60_5
    clear c7_o60_5 ac7_o60_5
    have c8_o70_0 : w8.cell? ⟨w7.heap.size, 0, none⟩ = some (.int .i64 (fatR sy0 st0 xs0 st1 hd1 at1 (its1.map It.xs) (jts1.map It.xs) xs1 xs2).1.1) := keepc hb (by first | (simp; done) | (rw [World.cell?_alloc_past _ _ _ (by simp <;> omega)]; simp; done) | (rw [World.cell?_alloc_past _ _ _ (by simp <;> omega), World.cell?_alloc_past _ _ _ (by simp <;> omega)]; simp; done) | (rw [World.cell?_alloc_past _ _ _ (by simp <;> omega), World.cell?_alloc_past _ _ _ (by simp <;> omega), World.cell?_alloc_past _ _ _ (by simp <;> omega)]; simp; done) | (rw [World.cell?_alloc_at _ _ _ _ (by simp)]; simp; done) | (rw [World.cell?_alloc_past _ _ _ (by simp <;> omega), World.cell?_alloc_at _ _ _ _ (by simp)]; simp; done) | (rw [World.cell?_alloc_past _ _ _ (by simp <;> omega), World.cell?_alloc_past _ _ _ (by simp <;> omega), World.cell?_alloc_at _ _ _ _ (by simp)]; simp; done) | (rw [World.cell?_alloc_past _ _ _ (by simp <;> omega), World.cell?_alloc_past _ _ _ (by simp <;> omega), World.cell?_alloc_past _ _ _ (by simp <;> omega), World.cell?_alloc_at _ _ _ _ (by simp)]; simp; done))
    have hl_c8_o70_0 : w7.heap.size < w8.heap.size := World.block_lt_of_cell? w8 _ c8_o70_0
    have c8_o70_1 : w8.cell? ⟨w7.heap.size, 1, none⟩ = some (.slice A62 n63 c64) := keepc hb (by first | (simp; done) | (rw [World.cell?_alloc_past _ _ _ (by simp <;> omega)]; simp; done) | (rw [World.cell?_alloc_past _ _ _ (by simp <;> omega), World.cell?_alloc_past _ _ _ (by simp <;> omega)]; simp; done) | (rw [World.cell?_alloc_past _ _ _ (by simp <;> omega), World.cell?_alloc_past _ _ _ (by simp <;> omega), World.cell?_alloc_past _ _ _ (by simp <;> omega)]; simp; done) | (rw [World.cell?_alloc_at _ _ _ _ (by simp)]; simp; done) | (rw [World.cell?_alloc_past _ _ _ (by simp <;> omega), World.cell?_alloc_at _ _ _ _ (by simp)]; simp; done) | (rw [World.cell?_alloc_past _ _ _ (by simp <;> omega), World.cell?_alloc_past _ _ _ (by simp <;> omega), World.cell?_alloc_at _ _ _ _ (by simp)]; simp; done) | (rw [World.cell?_alloc_past _ _ _ (by simp <;> omega), World.cell?_alloc_past _ _ _ (by simp <;> omega), World.cell?_alloc_past _ _ _ (by simp <;> omega), World.cell?_alloc_at _ _ _ _ (by simp)]; simp; done))
    have c8_o70_2 : w8.cell? ⟨w7.heap.size, 2, none⟩ = some (.slice B65 m66 d67) := keepc hb (by first | (simp; done) | (rw [World.cell?_alloc_past _ _ _ (by simp <;> omega)]; simp; done) | (rw [World.cell?_alloc_past _ _ _ (by simp <;> omega), World.cell?_alloc_past _ _ _ (by simp <;> omega)]; simp; done) | (rw [World.cell?_alloc_past _ _ _ (by simp <;> omega), World.cell?_alloc_past _ _ _ (by simp <;> omega), World.cell?_alloc_past _ _ _ (by simp <;> omega)]; simp; done) | (rw [World.cell?_alloc_at _ _ _ _ (by simp)]; simp; done) | (rw [World.cell?_alloc_past _ _ _ (by simp <;> omega), World.cell?_alloc_at _ _ _ _ (by simp)]; simp; done) | (rw [World.cell?_alloc_past _ _ _ (by simp <;> omega), World.cell?_alloc_past _ _ _ (by simp <;> omega), World.cell?_alloc_at _ _ _ _ (by simp)]; simp; done) | (rw [World.cell?_alloc_past _ _ _ (by simp <;> omega), World.cell?_alloc_past _ _ _ (by simp <;> omega), World.cell?_alloc_past _ _ _ (by simp <;> omega), World.cell?_alloc_at _ _ _ _ (by simp)]; simp; done))
    have ac8_a0_0 := fun o => keepa o c8_a0_0
    have ac8_a0_1 := fun o => keepa o c8_a0_1
    have ac8_a0_2 := fun o => keepa o c8_a0_2
    have ac8_a1_0 := fun o => keepa o c8_a1_0
    have ac8_a1_1 := fun o => keepa o c8_a1_1
    have ac8_a1_2 := fun o => keepa o c8_a1_2
    have ac8_a1_3 := fun o => keepa o c8_a1_3
    have ac8_a1_4 := fun o => keepa o c8_a1_4
    have ac8_a1_5 := fun o => keepa o c8_a1_5
    have ac8_o52_0 := fun o => keepa o c8_o52_0
    have ac8_o52_1 := fun o => keepa o c8_o52_1
    have ac8_o52_2 := fun o => keepa o c8_o52_2
    have ac8_o54_0 := fun o => keepa o c8_o54_0
    have ac8_o54_1 := fun o => keepa o c8_o54_1
    have ac8_o54_2 := fun o => keepa o c8_o54_2
    have ac8_o60_0 := fun o => keepa o c8_o60_0
    have ac8_o60_1 := fun o => keepa o c8_o60_1
    have ac8_o60_2 := fun o => keepa o c8_o60_2
    have ac8_o60_3 := fun o => keepa o c8_o60_3
    have ac8_o60_4 := fun o => keepa o c8_o60_4
    have ac8_o60_5 := fun o => keepa o c8_o60_5
    have ac8_o70_0 := fun o => keepa o c8_o70_0
    have ac8_o70_1 := fun o => keepa o c8_o70_1
    have ac8_o70_2 := fun o => keepa o c8_o70_2
    have rP0 := P0.out.below hb'; clear P0; have P0 := Lib.hid rP0; clear rP0
    have rP1 := P1.out.below hb'; clear P1; have P1 := Lib.hid rP1; clear rP1
    have rP2 := P2.out.below hb'; clear P2; have P2 := Lib.hid rP2; clear rP2
    have rFo52 := Fo52.out.below hb'; clear Fo52; have Fo52 := Lib.hid rFo52; clear rFo52
    have rFo54 := Fo54.out.below hb'; clear Fo54; have Fo54 := Lib.hid rFo54; clear rFo54
    have rFo60 := Fo60.out.below hb'; clear Fo60; have Fo60 := Lib.hid rFo60; clear rFo60
    have rFo61 := Fo61.out.below hb'; clear Fo61; have Fo61 := Lib.hid rFo61; clear rFo61
    have rFo70 := Fo70.out.below hb'; clear Fo70; have Fo70 := Lib.hid rFo70; clear rFo70
    have rB := below_chain B.out (by omega) hb'; clear B; have B := Lib.hid rB; clear rB
    clear hb hb'
    go_wp2_with fail
    have fx_c8_a0_0 := Ext.cell c8_a0_0
    have fx_c8_a0_1 := Ext.cell c8_a0_1
    have fx_c8_a0_2 := Ext.cell c8_a0_2
    have fx_c8_a1_0 := Ext.cell c8_a1_0
    have fx_c8_a1_1 := Ext.cell c8_a1_1
    have fx_c8_a1_2 := Ext.cell c8_a1_2
    have fx_c8_a1_3 := Ext.cell c8_a1_3
    have fx_c8_a1_4 := Ext.cell c8_a1_4
    have fx_c8_a1_5 := Ext.cell c8_a1_5
    have fx_c8_o52_0 := Ext.cell c8_o52_0
    have fx_c8_o52_1 := Ext.cell c8_o52_1
    have fx_c8_o52_2 := Ext.cell c8_o52_2
    have fx_c8_o54_0 := Ext.cell c8_o54_0
    have fx_c8_o54_1 := Ext.cell c8_o54_1
    have fx_c8_o54_2 := Ext.cell c8_o54_2
    have fx_c8_o60_0 := Ext.cell c8_o60_0
    have fx_c8_o60_1 := Ext.cell c8_o60_1
    have fx_c8_o60_2 := Ext.cell c8_o60_2
    have fx_c8_o60_3 := Ext.cell c8_o60_3
    have fx_c8_o60_4 := Ext.cell c8_o60_4
    have fx_c8_o60_5 := Ext.cell c8_o60_5
    have fx_c8_o70_0 := Ext.cell c8_o70_0
    have fx_c8_o70_1 := Ext.cell c8_o70_1
    have fx_c8_o70_2 := Ext.cell c8_o70_2
    refine Mix.wp_region_mix [3, 3, 1, 1, 0] (fun w' => ∃ x : Ext w8, w' = x.w) (by kernel_rfl) (by kernel_rfl) (InExt.drew _) ?_
    repeat (first | (refine Mix.wpMix_read (by rfl) ?_; go_big_quiet_step (fail); refine wpQuiet_nil ?_) | (refine Mix.wpMix_pure (by rfl) ?_; go_big_quiet_step (fail); refine wpQuiet_nil ?_))
    refine Mix.wpMix_chg (by rfl) (fun K hK => ?_)
    go_wp2_with fail
    refine (toMachine_c _ _ _ _ _ _ _ (by exact (P0.out.rd)) (by omega)).mono ?_
    rintro e w9 ⟨g071, rfl, q9, hb⟩
    have hb' : Below w8.heap.size w8 w9 := (by first | (with_reducible exact hb) | (with_reducible exact up1 hb) | (with_reducible exact up2 hb) | (with_reducible exact up3 hb) | (with_reducible exact up4 hb) | (with_reducible exact below_of_drew hb) | (with_reducible exact below_of_drew (up1 hb)))
    have z9 := hb'.size
    have c9_a0_0 : w9.cell? ⟨w.heap.size, 0, none⟩ = some (.int .i64 sy0) := keepc hb' c8_a0_0
    clear c8_a0_0 ac8_a0_0
    have c9_a0_1 : w9.cell? ⟨w.heap.size, 1, none⟩ = some (.int .i64 st0) := keepc hb' c8_a0_1
    clear c8_a0_1 ac8_a0_1
    have c9_a0_2 : w9.cell? ⟨w.heap.size, 2, none⟩ = some (.slice A0 n0 c0) := keepc hb' c8_a0_2
    clear c8_a0_2 ac8_a0_2
    have c9_a1_0 : w9.cell? ⟨(w.heap.size + 1), 0, none⟩ = some (.int .i64 st1) := keepc hb' c8_a1_0
    clear c8_a1_0 ac8_a1_0
    have c9_a1_1 : w9.cell? ⟨(w.heap.size + 1), 1, none⟩ = some (.int .i64 hd1) := keepc hb' c8_a1_1
    clear c8_a1_1 ac8_a1_1
    have c9_a1_2 : w9.cell? ⟨(w.heap.size + 1), 2, none⟩ = some (.int .i64 at1) := keepc hb' c8_a1_2
    clear c8_a1_2 ac8_a1_2
    have c9_a1_3 : w9.cell? ⟨(w.heap.size + 1), 3, none⟩ = some (.slice A1 n1 c1) := keepc hb' c8_a1_3
    clear c8_a1_3 ac8_a1_3
    have c9_a1_4 : w9.cell? ⟨(w.heap.size + 1), 4, none⟩ = some (.slice B1 m1 d1) := keepc hb' c8_a1_4
    clear c8_a1_4 ac8_a1_4
    have c9_a1_5 : w9.cell? ⟨(w.heap.size + 1), 5, none⟩ = some (.slice C1 k1 e1) := keepc hb' c8_a1_5
    clear c8_a1_5 ac8_a1_5
    have c9_o52_0 : w9.cell? ⟨g17, 0, none⟩ = some (.int .i64 (fatR sy0 st0 xs0 st1 hd1 at1 (its1.map It.xs) (jts1.map It.xs) xs1 xs2).1.1) := keepc hb' c8_o52_0
    clear c8_o52_0 ac8_o52_0
    have c9_o52_1 : w9.cell? ⟨g17, 1, none⟩ = some (.slice A11 n12 c13) := keepc hb' c8_o52_1
    clear c8_o52_1 ac8_o52_1
    have c9_o52_2 : w9.cell? ⟨g17, 2, none⟩ = some (.slice B14 m15 d16) := keepc hb' c8_o52_2
    clear c8_o52_2 ac8_o52_2
    have c9_o54_0 : w9.cell? ⟨w4.heap.size, 0, none⟩ = some (.int .i64 sy0) := keepc hb' c8_o54_0
    clear c8_o54_0 ac8_o54_0
    have c9_o54_1 : w9.cell? ⟨w4.heap.size, 1, none⟩ = some (.int .i64 st0) := keepc hb' c8_o54_1
    clear c8_o54_1 ac8_o54_1
    have c9_o54_2 : w9.cell? ⟨w4.heap.size, 2, none⟩ = some (.slice (some ⟨g053, 0, none⟩) n0 n0) := keepc hb' c8_o54_2
    clear c8_o54_2 ac8_o54_2
    have c9_o60_0 : w9.cell? ⟨w5.heap.size, 0, none⟩ = some (.int .i64 st1) := keepc hb' c8_o60_0
    clear c8_o60_0 ac8_o60_0
    have c9_o60_1 : w9.cell? ⟨w5.heap.size, 1, none⟩ = some (.int .i64 hd1) := keepc hb' c8_o60_1
    clear c8_o60_1 ac8_o60_1
    have c9_o60_2 : w9.cell? ⟨w5.heap.size, 2, none⟩ = some (.int .i64 at1) := keepc hb' c8_o60_2
    clear c8_o60_2 ac8_o60_2
    have c9_o60_3 : w9.cell? ⟨w5.heap.size, 3, none⟩ = some (.slice (some ⟨g055, 0, none⟩) n1 n1) := keepc hb' c8_o60_3
    clear c8_o60_3 ac8_o60_3
    have c9_o60_4 : w9.cell? ⟨w5.heap.size, 4, none⟩ = some (.slice (some ⟨g157, 0, none⟩) m1 m1) := keepc hb' c8_o60_4
    clear c8_o60_4 ac8_o60_4
    have c9_o60_5 : w9.cell? ⟨w5.heap.size, 5, none⟩ = some (.slice (some ⟨g259, 0, none⟩) k1 k1) := keepc hb' c8_o60_5
    clear c8_o60_5 ac8_o60_5
    have c9_o70_0 : w9.cell? ⟨w7.heap.size, 0, none⟩ = some (.int .i64 (fatR sy0 st0 xs0 st1 hd1 at1 (its1.map It.xs) (jts1.map It.xs) xs1 xs2).1.1) := keepc hb' c8_o70_0
    clear c8_o70_0 ac8_o70_0
    have c9_o70_1 : w9.cell? ⟨w7.heap.size, 1, none⟩ = some (.slice A62 n63 c64) := keepc hb' c8_o70_1
    clear c8_o70_1 ac8_o70_1
    have c9_o70_2 : w9.cell? ⟨w7.heap.size, 2, none⟩ = some (.slice B65 m66 d67) := keepc hb' c8_o70_2
    clear c8_o70_2 ac8_o70_2
    have ac9_a0_0 := fun o => keepa o c9_a0_0
    have ac9_a0_1 := fun o => keepa o c9_a0_1
    have ac9_a0_2 := fun o => keepa o c9_a0_2
    have ac9_a1_0 := fun o => keepa o c9_a1_0
    have ac9_a1_1 := fun o => keepa o c9_a1_1
    have ac9_a1_2 := fun o => keepa o c9_a1_2
    have ac9_a1_3 := fun o => keepa o c9_a1_3
    have ac9_a1_4 := fun o => keepa o c9_a1_4
    have ac9_a1_5 := fun o => keepa o c9_a1_5
    have ac9_o52_0 := fun o => keepa o c9_o52_0
    have ac9_o52_1 := fun o => keepa o c9_o52_1
    have ac9_o52_2 := fun o => keepa o c9_o52_2
    have ac9_o54_0 := fun o => keepa o c9_o54_0
    have ac9_o54_1 := fun o => keepa o c9_o54_1
    have ac9_o54_2 := fun o => keepa o c9_o54_2
    have ac9_o60_0 := fun o => keepa o c9_o60_0
    have ac9_o60_1 := fun o => keepa o c9_o60_1
    have ac9_o60_2 := fun o => keepa o c9_o60_2
    have ac9_o60_3 := fun o => keepa o c9_o60_3
    have ac9_o60_4 := fun o => keepa o c9_o60_4
    have ac9_o60_5 := fun o => keepa o c9_o60_5
    have ac9_o70_0 := fun o => keepa o c9_o70_0
    have ac9_o70_1 := fun o => keepa o c9_o70_1
    have ac9_o70_2 := fun o => keepa o c9_o70_2
    have rP0 := P0.out.below hb'; clear P0; have P0 := Lib.hid rP0; clear rP0
    have rP1 := P1.out.below hb'; clear P1; have P1 := Lib.hid rP1; clear rP1
    have rP2 := P2.out.below hb'; clear P2; have P2 := Lib.hid rP2; clear rP2
    have rFo52 := Fo52.out.below hb'; clear Fo52; have Fo52 := Lib.hid rFo52; clear rFo52
    have rFo54 := Fo54.out.below hb'; clear Fo54; have Fo54 := Lib.hid rFo54; clear rFo54
    have rFo60 := Fo60.out.below hb'; clear Fo60; have Fo60 := Lib.hid rFo60; clear rFo60
    have rFo61 := Fo61.out.below hb'; clear Fo61; have Fo61 := Lib.hid rFo61; clear rFo61
    have rFo70 := Fo70.out.below hb'; clear Fo70; have Fo70 := Lib.hid rFo70; clear rFo70
    have rB := below_chain B.out (by omega) hb'; clear B; have B := Lib.hid rB; clear rB
    have Fo72 := Lib.hid q9; clear q9
    have em9 : Below w8.heap.size w8 w9 := hb'
    clear hb hb'
    go_wp2_with fail
    refine hK _ _ ⟨⟨_, em9⟩, rfl⟩ ?_
    clear hK K
    refine Mix.wpMix_chg (by rfl) (fun K hK => ?_)
    go_wp2_with fail
    refine (eqMachine_t _ _ _ _ _ _ _ _ _ _ (by exact (Fo54.out.rd)) (by exact (Fo72.out.rd)) (by omega)).mono ?_
    rintro e w10 ⟨rfl, hb⟩
    have hb' : Below w9.heap.size w9 w10 := (by first | (with_reducible exact hb) | (with_reducible exact up1 hb) | (with_reducible exact up2 hb) | (with_reducible exact up3 hb) | (with_reducible exact up4 hb) | (with_reducible exact below_of_drew hb) | (with_reducible exact below_of_drew (up1 hb)))
    have z10 := hb'.size
    have c10_a0_0 : w10.cell? ⟨w.heap.size, 0, none⟩ = some (.int .i64 sy0) := keepc hb' c9_a0_0
    clear c9_a0_0 ac9_a0_0
    have c10_a0_1 : w10.cell? ⟨w.heap.size, 1, none⟩ = some (.int .i64 st0) := keepc hb' c9_a0_1
    clear c9_a0_1 ac9_a0_1
    have c10_a0_2 : w10.cell? ⟨w.heap.size, 2, none⟩ = some (.slice A0 n0 c0) := keepc hb' c9_a0_2
    clear c9_a0_2 ac9_a0_2
    have c10_a1_0 : w10.cell? ⟨(w.heap.size + 1), 0, none⟩ = some (.int .i64 st1) := keepc hb' c9_a1_0
    clear c9_a1_0 ac9_a1_0
    have c10_a1_1 : w10.cell? ⟨(w.heap.size + 1), 1, none⟩ = some (.int .i64 hd1) := keepc hb' c9_a1_1
    clear c9_a1_1 ac9_a1_1
    have c10_a1_2 : w10.cell? ⟨(w.heap.size + 1), 2, none⟩ = some (.int .i64 at1) := keepc hb' c9_a1_2
    clear c9_a1_2 ac9_a1_2
    have c10_a1_3 : w10.cell? ⟨(w.heap.size + 1), 3, none⟩ = some (.slice A1 n1 c1) := keepc hb' c9_a1_3
    clear c9_a1_3 ac9_a1_3
    have c10_a1_4 : w10.cell? ⟨(w.heap.size + 1), 4, none⟩ = some (.slice B1 m1 d1) := keepc hb' c9_a1_4
    clear c9_a1_4 ac9_a1_4
    have c10_a1_5 : w10.cell? ⟨(w.heap.size + 1), 5, none⟩ = some (.slice C1 k1 e1) := keepc hb' c9_a1_5
    clear c9_a1_5 ac9_a1_5
    have c10_o52_0 : w10.cell? ⟨g17, 0, none⟩ = some (.int .i64 (fatR sy0 st0 xs0 st1 hd1 at1 (its1.map It.xs) (jts1.map It.xs) xs1 xs2).1.1) := keepc hb' c9_o52_0
    clear c9_o52_0 ac9_o52_0
    have c10_o52_1 : w10.cell? ⟨g17, 1, none⟩ = some (.slice A11 n12 c13) := keepc hb' c9_o52_1
    clear c9_o52_1 ac9_o52_1
    have c10_o52_2 : w10.cell? ⟨g17, 2, none⟩ = some (.slice B14 m15 d16) := keepc hb' c9_o52_2
    clear c9_o52_2 ac9_o52_2
    have c10_o54_0 : w10.cell? ⟨w4.heap.size, 0, none⟩ = some (.int .i64 sy0) := keepc hb' c9_o54_0
    clear c9_o54_0 ac9_o54_0
    have c10_o54_1 : w10.cell? ⟨w4.heap.size, 1, none⟩ = some (.int .i64 st0) := keepc hb' c9_o54_1
    clear c9_o54_1 ac9_o54_1
    have c10_o54_2 : w10.cell? ⟨w4.heap.size, 2, none⟩ = some (.slice (some ⟨g053, 0, none⟩) n0 n0) := keepc hb' c9_o54_2
    clear c9_o54_2 ac9_o54_2
    have c10_o60_0 : w10.cell? ⟨w5.heap.size, 0, none⟩ = some (.int .i64 st1) := keepc hb' c9_o60_0
    clear c9_o60_0 ac9_o60_0
    have c10_o60_1 : w10.cell? ⟨w5.heap.size, 1, none⟩ = some (.int .i64 hd1) := keepc hb' c9_o60_1
    clear c9_o60_1 ac9_o60_1
    have c10_o60_2 : w10.cell? ⟨w5.heap.size, 2, none⟩ = some (.int .i64 at1) := keepc hb' c9_o60_2
    clear c9_o60_2 ac9_o60_2
    have c10_o60_3 : w10.cell? ⟨w5.heap.size, 3, none⟩ = some (.slice (some ⟨g055, 0, none⟩) n1 n1) := keepc hb' c9_o60_3
    clear c9_o60_3 ac9_o60_3
    have c10_o60_4 : w10.cell? ⟨w5.heap.size, 4, none⟩ = some (.slice (some ⟨g157, 0, none⟩) m1 m1) := keepc hb' c9_o60_4
    clear c9_o60_4 ac9_o60_4
    have c10_o60_5 : w10.cell? ⟨w5.heap.size, 5, none⟩ = some (.slice (some ⟨g259, 0, none⟩) k1 k1) := keepc hb' c9_o60_5
    clear c9_o60_5 ac9_o60_5
    have c10_o70_0 : w10.cell? ⟨w7.heap.size, 0, none⟩ = some (.int .i64 (fatR sy0 st0 xs0 st1 hd1 at1 (its1.map It.xs) (jts1.map It.xs) xs1 xs2).1.1) := keepc hb' c9_o70_0
    clear c9_o70_0 ac9_o70_0
    have c10_o70_1 : w10.cell? ⟨w7.heap.size, 1, none⟩ = some (.slice A62 n63 c64) := keepc hb' c9_o70_1
    clear c9_o70_1 ac9_o70_1
    have c10_o70_2 : w10.cell? ⟨w7.heap.size, 2, none⟩ = some (.slice B65 m66 d67) := keepc hb' c9_o70_2
    clear c9_o70_2 ac9_o70_2
    have ac10_a0_0 := fun o => keepa o c10_a0_0
    have ac10_a0_1 := fun o => keepa o c10_a0_1
    have ac10_a0_2 := fun o => keepa o c10_a0_2
    have ac10_a1_0 := fun o => keepa o c10_a1_0
    have ac10_a1_1 := fun o => keepa o c10_a1_1
    have ac10_a1_2 := fun o => keepa o c10_a1_2
    have ac10_a1_3 := fun o => keepa o c10_a1_3
    have ac10_a1_4 := fun o => keepa o c10_a1_4
    have ac10_a1_5 := fun o => keepa o c10_a1_5
    have ac10_o52_0 := fun o => keepa o c10_o52_0
    have ac10_o52_1 := fun o => keepa o c10_o52_1
    have ac10_o52_2 := fun o => keepa o c10_o52_2
    have ac10_o54_0 := fun o => keepa o c10_o54_0
    have ac10_o54_1 := fun o => keepa o c10_o54_1
    have ac10_o54_2 := fun o => keepa o c10_o54_2
    have ac10_o60_0 := fun o => keepa o c10_o60_0
    have ac10_o60_1 := fun o => keepa o c10_o60_1
    have ac10_o60_2 := fun o => keepa o c10_o60_2
    have ac10_o60_3 := fun o => keepa o c10_o60_3
    have ac10_o60_4 := fun o => keepa o c10_o60_4
    have ac10_o60_5 := fun o => keepa o c10_o60_5
    have ac10_o70_0 := fun o => keepa o c10_o70_0
    have ac10_o70_1 := fun o => keepa o c10_o70_1
    have ac10_o70_2 := fun o => keepa o c10_o70_2
    have rP0 := P0.out.below hb'; clear P0; have P0 := Lib.hid rP0; clear rP0
    have rP1 := P1.out.below hb'; clear P1; have P1 := Lib.hid rP1; clear rP1
    have rP2 := P2.out.below hb'; clear P2; have P2 := Lib.hid rP2; clear rP2
    have rFo52 := Fo52.out.below hb'; clear Fo52; have Fo52 := Lib.hid rFo52; clear rFo52
    have rFo54 := Fo54.out.below hb'; clear Fo54; have Fo54 := Lib.hid rFo54; clear rFo54
    have rFo60 := Fo60.out.below hb'; clear Fo60; have Fo60 := Lib.hid rFo60; clear rFo60
    have rFo61 := Fo61.out.below hb'; clear Fo61; have Fo61 := Lib.hid rFo61; clear rFo61
    have rFo70 := Fo70.out.below hb'; clear Fo70; have Fo70 := Lib.hid rFo70; clear rFo70
    have rFo72 := Fo72.out.below hb'; clear Fo72; have Fo72 := Lib.hid rFo72; clear rFo72
    have rB := below_chain B.out (by omega) hb'; clear B; have B := Lib.hid rB; clear rB
    have em10 : Below w8.heap.size w8 w10 := below_chain em9 (by omega) hb'
    clear hb hb'
    go_wp2_with fail
    refine hK _ _ ⟨⟨_, em10⟩, rfl⟩ ?_
    clear hK K
    repeat (first | (refine Mix.wpMix_read (by rfl) ?_; go_big_quiet_step (fail); refine wpQuiet_nil ?_) | (refine Mix.wpMix_pure (by rfl) ?_; go_big_quiet_step (fail); refine wpQuiet_nil ?_))
    (refine Mix.wpMix_nil ?_; try simp only [Exit.then])
    clear fx_c8_a0_0
    clear fx_c8_a0_1
    clear fx_c8_a0_2
    clear fx_c8_a1_0
    clear fx_c8_a1_1
    clear fx_c8_a1_2
    clear fx_c8_a1_3
    clear fx_c8_a1_4
    clear fx_c8_a1_5
    clear fx_c8_o52_0
    clear fx_c8_o52_1
    clear fx_c8_o52_2
    clear fx_c8_o54_0
    clear fx_c8_o54_1
    clear fx_c8_o54_2
    clear fx_c8_o60_0
    clear fx_c8_o60_1
    clear fx_c8_o60_2
    clear fx_c8_o60_3
    clear fx_c8_o60_4
    clear fx_c8_o60_5
    clear fx_c8_o70_0
    clear fx_c8_o70_1
    clear fx_c8_o70_2
    clear Fo72
    go_wp2_with fail
    have fx_c10_a0_0 := Ext.cell c10_a0_0
    have fx_c10_a0_1 := Ext.cell c10_a0_1
    have fx_c10_a0_2 := Ext.cell c10_a0_2
    have fx_c10_a1_0 := Ext.cell c10_a1_0
    have fx_c10_a1_1 := Ext.cell c10_a1_1
    have fx_c10_a1_2 := Ext.cell c10_a1_2
    have fx_c10_a1_3 := Ext.cell c10_a1_3
    have fx_c10_a1_4 := Ext.cell c10_a1_4
    have fx_c10_a1_5 := Ext.cell c10_a1_5
    have fx_c10_o52_0 := Ext.cell c10_o52_0
    have fx_c10_o52_1 := Ext.cell c10_o52_1
    have fx_c10_o52_2 := Ext.cell c10_o52_2
    have fx_c10_o54_0 := Ext.cell c10_o54_0
    have fx_c10_o54_1 := Ext.cell c10_o54_1
    have fx_c10_o54_2 := Ext.cell c10_o54_2
    have fx_c10_o60_0 := Ext.cell c10_o60_0
    have fx_c10_o60_1 := Ext.cell c10_o60_1
    have fx_c10_o60_2 := Ext.cell c10_o60_2
    have fx_c10_o60_3 := Ext.cell c10_o60_3
    have fx_c10_o60_4 := Ext.cell c10_o60_4
    have fx_c10_o60_5 := Ext.cell c10_o60_5
    have fx_c10_o70_0 := Ext.cell c10_o70_0
    have fx_c10_o70_1 := Ext.cell c10_o70_1
    have fx_c10_o70_2 := Ext.cell c10_o70_2
    refine Mix.wp_region_mix [3, 3, 1, 1, 0] (fun w' => ∃ x : Ext w10, w' = x.w) (by kernel_rfl) (by kernel_rfl) (InExt.drew _) ?_
    repeat (first | (refine Mix.wpMix_read (by rfl) ?_; go_big_quiet_step (fail); refine wpQuiet_nil ?_) | (refine Mix.wpMix_pure (by rfl) ?_; go_big_quiet_step (fail); refine wpQuiet_nil ?_))
    refine Mix.wpMix_chg (by rfl) (fun K hK => ?_)
    go_wp2_with fail
    refine (toFormula_c _ _ _ _ _ _ _ _ _ _ _ _ _ _ _ _ (by exact (P1.out.rd)) (by omega) (by omega) (by omega) hI0_a1 hI1_a1).mono ?_
    rintro e w11 ⟨g073, js074, g175, js176, g277, rfl, hx0_11, hx1_11, q11, hb⟩
    have hb' : Below w10.heap.size w10 w11 := (by first | (with_reducible exact hb) | (with_reducible exact up1 hb) | (with_reducible exact up2 hb) | (with_reducible exact up3 hb) | (with_reducible exact up4 hb) | (with_reducible exact below_of_drew hb) | (with_reducible exact below_of_drew (up1 hb)))
    have z11 := hb'.size
    have c11_a0_0 : w11.cell? ⟨w.heap.size, 0, none⟩ = some (.int .i64 sy0) := keepc hb' c10_a0_0
    clear c10_a0_0 ac10_a0_0
    have c11_a0_1 : w11.cell? ⟨w.heap.size, 1, none⟩ = some (.int .i64 st0) := keepc hb' c10_a0_1
    clear c10_a0_1 ac10_a0_1
    have c11_a0_2 : w11.cell? ⟨w.heap.size, 2, none⟩ = some (.slice A0 n0 c0) := keepc hb' c10_a0_2
    clear c10_a0_2 ac10_a0_2
    have c11_a1_0 : w11.cell? ⟨(w.heap.size + 1), 0, none⟩ = some (.int .i64 st1) := keepc hb' c10_a1_0
    clear c10_a1_0 ac10_a1_0
    have c11_a1_1 : w11.cell? ⟨(w.heap.size + 1), 1, none⟩ = some (.int .i64 hd1) := keepc hb' c10_a1_1
    clear c10_a1_1 ac10_a1_1
    have c11_a1_2 : w11.cell? ⟨(w.heap.size + 1), 2, none⟩ = some (.int .i64 at1) := keepc hb' c10_a1_2
    clear c10_a1_2 ac10_a1_2
    have c11_a1_3 : w11.cell? ⟨(w.heap.size + 1), 3, none⟩ = some (.slice A1 n1 c1) := keepc hb' c10_a1_3
    clear c10_a1_3 ac10_a1_3
    have c11_a1_4 : w11.cell? ⟨(w.heap.size + 1), 4, none⟩ = some (.slice B1 m1 d1) := keepc hb' c10_a1_4
    clear c10_a1_4 ac10_a1_4
    have c11_a1_5 : w11.cell? ⟨(w.heap.size + 1), 5, none⟩ = some (.slice C1 k1 e1) := keepc hb' c10_a1_5
    clear c10_a1_5 ac10_a1_5
    have c11_o52_0 : w11.cell? ⟨g17, 0, none⟩ = some (.int .i64 (fatR sy0 st0 xs0 st1 hd1 at1 (its1.map It.xs) (jts1.map It.xs) xs1 xs2).1.1) := keepc hb' c10_o52_0
    clear c10_o52_0 ac10_o52_0
    have c11_o52_1 : w11.cell? ⟨g17, 1, none⟩ = some (.slice A11 n12 c13) := keepc hb' c10_o52_1
    clear c10_o52_1 ac10_o52_1
    have c11_o52_2 : w11.cell? ⟨g17, 2, none⟩ = some (.slice B14 m15 d16) := keepc hb' c10_o52_2
    clear c10_o52_2 ac10_o52_2
    have c11_o54_0 : w11.cell? ⟨w4.heap.size, 0, none⟩ = some (.int .i64 sy0) := keepc hb' c10_o54_0
    clear c10_o54_0 ac10_o54_0
    have c11_o54_1 : w11.cell? ⟨w4.heap.size, 1, none⟩ = some (.int .i64 st0) := keepc hb' c10_o54_1
    clear c10_o54_1 ac10_o54_1
    have c11_o54_2 : w11.cell? ⟨w4.heap.size, 2, none⟩ = some (.slice (some ⟨g053, 0, none⟩) n0 n0) := keepc hb' c10_o54_2
    clear c10_o54_2 ac10_o54_2
    have c11_o60_0 : w11.cell? ⟨w5.heap.size, 0, none⟩ = some (.int .i64 st1) := keepc hb' c10_o60_0
    clear c10_o60_0 ac10_o60_0
    have c11_o60_1 : w11.cell? ⟨w5.heap.size, 1, none⟩ = some (.int .i64 hd1) := keepc hb' c10_o60_1
    clear c10_o60_1 ac10_o60_1
    have c11_o60_2 : w11.cell? ⟨w5.heap.size, 2, none⟩ = some (.int .i64 at1) := keepc hb' c10_o60_2
    clear c10_o60_2 ac10_o60_2
    have c11_o60_3 : w11.cell? ⟨w5.heap.size, 3, none⟩ = some (.slice (some ⟨g055, 0, none⟩) n1 n1) := keepc hb' c10_o60_3
    clear c10_o60_3 ac10_o60_3
    have c11_o60_4 : w11.cell? ⟨w5.heap.size, 4, none⟩ = some (.slice (some ⟨g157, 0, none⟩) m1 m1) := keepc hb' c10_o60_4
    clear c10_o60_4 ac10_o60_4
    have c11_o60_5 : w11.cell? ⟨w5.heap.size, 5, none⟩ = some (.slice (some ⟨g259, 0, none⟩) k1 k1) := keepc hb' c10_o60_5
    clear c10_o60_5 ac10_o60_5
    have c11_o70_0 : w11.cell? ⟨w7.heap.size, 0, none⟩ = some (.int .i64 (fatR sy0 st0 xs0 st1 hd1 at1 (its1.map It.xs) (jts1.map It.xs) xs1 xs2).1.1) := keepc hb' c10_o70_0
    clear c10_o70_0 ac10_o70_0
    have c11_o70_1 : w11.cell? ⟨w7.heap.size, 1, none⟩ = some (.slice A62 n63 c64) := keepc hb' c10_o70_1
    clear c10_o70_1 ac10_o70_1
    have c11_o70_2 : w11.cell? ⟨w7.heap.size, 2, none⟩ = some (.slice B65 m66 d67) := keepc hb' c10_o70_2
    clear c10_o70_2 ac10_o70_2
    have ac11_a0_0 := fun o => keepa o c11_a0_0
    have ac11_a0_1 := fun o => keepa o c11_a0_1
    have ac11_a0_2 := fun o => keepa o c11_a0_2
    have ac11_a1_0 := fun o => keepa o c11_a1_0
    have ac11_a1_1 := fun o => keepa o c11_a1_1
    have ac11_a1_2 := fun o => keepa o c11_a1_2
    have ac11_a1_3 := fun o => keepa o c11_a1_3
    have ac11_a1_4 := fun o => keepa o c11_a1_4
    have ac11_a1_5 := fun o => keepa o c11_a1_5
    have ac11_o52_0 := fun o => keepa o c11_o52_0
    have ac11_o52_1 := fun o => keepa o c11_o52_1
    have ac11_o52_2 := fun o => keepa o c11_o52_2
    have ac11_o54_0 := fun o => keepa o c11_o54_0
    have ac11_o54_1 := fun o => keepa o c11_o54_1
    have ac11_o54_2 := fun o => keepa o c11_o54_2
    have ac11_o60_0 := fun o => keepa o c11_o60_0
    have ac11_o60_1 := fun o => keepa o c11_o60_1
    have ac11_o60_2 := fun o => keepa o c11_o60_2
    have ac11_o60_3 := fun o => keepa o c11_o60_3
    have ac11_o60_4 := fun o => keepa o c11_o60_4
    have ac11_o60_5 := fun o => keepa o c11_o60_5
    have ac11_o70_0 := fun o => keepa o c11_o70_0
    have ac11_o70_1 := fun o => keepa o c11_o70_1
    have ac11_o70_2 := fun o => keepa o c11_o70_2
    have rP0 := P0.out.below hb'; clear P0; have P0 := Lib.hid rP0; clear rP0
    have rP1 := P1.out.below hb'; clear P1; have P1 := Lib.hid rP1; clear rP1
    have rP2 := P2.out.below hb'; clear P2; have P2 := Lib.hid rP2; clear rP2
    have rFo52 := Fo52.out.below hb'; clear Fo52; have Fo52 := Lib.hid rFo52; clear rFo52
    have rFo54 := Fo54.out.below hb'; clear Fo54; have Fo54 := Lib.hid rFo54; clear rFo54
    have rFo60 := Fo60.out.below hb'; clear Fo60; have Fo60 := Lib.hid rFo60; clear rFo60
    have rFo61 := Fo61.out.below hb'; clear Fo61; have Fo61 := Lib.hid rFo61; clear rFo61
    have rFo70 := Fo70.out.below hb'; clear Fo70; have Fo70 := Lib.hid rFo70; clear rFo70
    have rB := below_chain B.out (by omega) hb'; clear B; have B := Lib.hid rB; clear rB
    have Fo78 := Lib.hid q11; clear q11
    have hm0_o78 := hx0_11
    have hI0_o78 : ∀ t ∈ js074, t.n ≤ 1000000000 := hi_of ((P1.out.rd).left.left) ((Fo78.out.rd).left.left) hx0_11 hI0_a1
    have hSm0_o78 : sumN js074 ≤ sumN its1 := sum_of ((P1.out.rd).left.left) ((Fo78.out.rd).left.left) hx0_11
    have hm1_o78 := hx1_11
    have hI1_o78 : ∀ t ∈ js176, t.n ≤ 1000000000 := hi_of ((P1.out.rd).left.right) ((Fo78.out.rd).left.right) hx1_11 hI1_a1
    have hSm1_o78 : sumN js176 ≤ sumN jts1 := sum_of ((P1.out.rd).left.right) ((Fo78.out.rd).left.right) hx1_11
    have em11 : Below w10.heap.size w10 w11 := hb'
    clear hb hb'
    go_wp2_with fail
    refine hK _ _ ⟨⟨_, em11⟩, rfl⟩ ?_
    clear hK K
    refine Mix.wpMix_chg (by rfl) (fun K hK => ?_)
    go_wp2_with fail
    refine (eqFormula_t _ _ _ _ _ _ _ _ _ _ _ _ _ _ _ _ _ _ _ _ _ _ _ _ _ _ _ (by exact (Fo60.out.rd)) (by exact (Fo78.out.rd)) (by omega) (by omega) (by omega) hI0_o60 (hm0_o60.trans hm0_o78.symm) hI1_o60 (hm1_o60.trans hm1_o78.symm)).mono ?_
    rintro e w12 ⟨rfl, hb⟩
    have hb' : Below w11.heap.size w11 w12 := (by first | (with_reducible exact hb) | (with_reducible exact up1 hb) | (with_reducible exact up2 hb) | (with_reducible exact up3 hb) | (with_reducible exact up4 hb) | (with_reducible exact below_of_drew hb) | (with_reducible exact below_of_drew (up1 hb)))
    have z12 := hb'.size
    have c12_a0_0 : w12.cell? ⟨w.heap.size, 0, none⟩ = some (.int .i64 sy0) := keepc hb' c11_a0_0
    clear c11_a0_0 ac11_a0_0
    have c12_a0_1 : w12.cell? ⟨w.heap.size, 1, none⟩ = some (.int .i64 st0) := keepc hb' c11_a0_1
    clear c11_a0_1 ac11_a0_1
    have c12_a0_2 : w12.cell? ⟨w.heap.size, 2, none⟩ = some (.slice A0 n0 c0) := keepc hb' c11_a0_2
    clear c11_a0_2 ac11_a0_2
    have c12_a1_0 : w12.cell? ⟨(w.heap.size + 1), 0, none⟩ = some (.int .i64 st1) := keepc hb' c11_a1_0
    clear c11_a1_0 ac11_a1_0
    have c12_a1_1 : w12.cell? ⟨(w.heap.size + 1), 1, none⟩ = some (.int .i64 hd1) := keepc hb' c11_a1_1
    clear c11_a1_1 ac11_a1_1
    have c12_a1_2 : w12.cell? ⟨(w.heap.size + 1), 2, none⟩ = some (.int .i64 at1) := keepc hb' c11_a1_2
    clear c11_a1_2 ac11_a1_2
    have c12_a1_3 : w12.cell? ⟨(w.heap.size + 1), 3, none⟩ = some (.slice A1 n1 c1) := keepc hb' c11_a1_3
    clear c11_a1_3 ac11_a1_3
    have c12_a1_4 : w12.cell? ⟨(w.heap.size + 1), 4, none⟩ = some (.slice B1 m1 d1) := keepc hb' c11_a1_4
    clear c11_a1_4 ac11_a1_4
    have c12_a1_5 : w12.cell? ⟨(w.heap.size + 1), 5, none⟩ = some (.slice C1 k1 e1) := keepc hb' c11_a1_5
    clear c11_a1_5 ac11_a1_5
    have c12_o52_0 : w12.cell? ⟨g17, 0, none⟩ = some (.int .i64 (fatR sy0 st0 xs0 st1 hd1 at1 (its1.map It.xs) (jts1.map It.xs) xs1 xs2).1.1) := keepc hb' c11_o52_0
    clear c11_o52_0 ac11_o52_0
    have c12_o52_1 : w12.cell? ⟨g17, 1, none⟩ = some (.slice A11 n12 c13) := keepc hb' c11_o52_1
    clear c11_o52_1 ac11_o52_1
    have c12_o52_2 : w12.cell? ⟨g17, 2, none⟩ = some (.slice B14 m15 d16) := keepc hb' c11_o52_2
    clear c11_o52_2 ac11_o52_2
    have c12_o54_0 : w12.cell? ⟨w4.heap.size, 0, none⟩ = some (.int .i64 sy0) := keepc hb' c11_o54_0
    clear c11_o54_0 ac11_o54_0
    have c12_o54_1 : w12.cell? ⟨w4.heap.size, 1, none⟩ = some (.int .i64 st0) := keepc hb' c11_o54_1
    clear c11_o54_1 ac11_o54_1
    have c12_o54_2 : w12.cell? ⟨w4.heap.size, 2, none⟩ = some (.slice (some ⟨g053, 0, none⟩) n0 n0) := keepc hb' c11_o54_2
    clear c11_o54_2 ac11_o54_2
    have c12_o60_0 : w12.cell? ⟨w5.heap.size, 0, none⟩ = some (.int .i64 st1) := keepc hb' c11_o60_0
    clear c11_o60_0 ac11_o60_0
    have c12_o60_1 : w12.cell? ⟨w5.heap.size, 1, none⟩ = some (.int .i64 hd1) := keepc hb' c11_o60_1
    clear c11_o60_1 ac11_o60_1
    have c12_o60_2 : w12.cell? ⟨w5.heap.size, 2, none⟩ = some (.int .i64 at1) := keepc hb' c11_o60_2
    clear c11_o60_2 ac11_o60_2
    have c12_o60_3 : w12.cell? ⟨w5.heap.size, 3, none⟩ = some (.slice (some ⟨g055, 0, none⟩) n1 n1) := keepc hb' c11_o60_3
    clear c11_o60_3 ac11_o60_3
    have c12_o60_4 : w12.cell? ⟨w5.heap.size, 4, none⟩ = some (.slice (some ⟨g157, 0, none⟩) m1 m1) := keepc hb' c11_o60_4
    clear c11_o60_4 ac11_o60_4
    have c12_o60_5 : w12.cell? ⟨w5.heap.size, 5, none⟩ = some (.slice (some ⟨g259, 0, none⟩) k1 k1) := keepc hb' c11_o60_5
    clear c11_o60_5 ac11_o60_5
    have c12_o70_0 : w12.cell? ⟨w7.heap.size, 0, none⟩ = some (.int .i64 (fatR sy0 st0 xs0 st1 hd1 at1 (its1.map It.xs) (jts1.map It.xs) xs1 xs2).1.1) := keepc hb' c11_o70_0
    clear c11_o70_0 ac11_o70_0
    have c12_o70_1 : w12.cell? ⟨w7.heap.size, 1, none⟩ = some (.slice A62 n63 c64) := keepc hb' c11_o70_1
    clear c11_o70_1 ac11_o70_1
    have c12_o70_2 : w12.cell? ⟨w7.heap.size, 2, none⟩ = some (.slice B65 m66 d67) := keepc hb' c11_o70_2
    clear c11_o70_2 ac11_o70_2
    have ac12_a0_0 := fun o => keepa o c12_a0_0
    have ac12_a0_1 := fun o => keepa o c12_a0_1
    have ac12_a0_2 := fun o => keepa o c12_a0_2
    have ac12_a1_0 := fun o => keepa o c12_a1_0
    have ac12_a1_1 := fun o => keepa o c12_a1_1
    have ac12_a1_2 := fun o => keepa o c12_a1_2
    have ac12_a1_3 := fun o => keepa o c12_a1_3
    have ac12_a1_4 := fun o => keepa o c12_a1_4
    have ac12_a1_5 := fun o => keepa o c12_a1_5
    have ac12_o52_0 := fun o => keepa o c12_o52_0
    have ac12_o52_1 := fun o => keepa o c12_o52_1
    have ac12_o52_2 := fun o => keepa o c12_o52_2
    have ac12_o54_0 := fun o => keepa o c12_o54_0
    have ac12_o54_1 := fun o => keepa o c12_o54_1
    have ac12_o54_2 := fun o => keepa o c12_o54_2
    have ac12_o60_0 := fun o => keepa o c12_o60_0
    have ac12_o60_1 := fun o => keepa o c12_o60_1
    have ac12_o60_2 := fun o => keepa o c12_o60_2
    have ac12_o60_3 := fun o => keepa o c12_o60_3
    have ac12_o60_4 := fun o => keepa o c12_o60_4
    have ac12_o60_5 := fun o => keepa o c12_o60_5
    have ac12_o70_0 := fun o => keepa o c12_o70_0
    have ac12_o70_1 := fun o => keepa o c12_o70_1
    have ac12_o70_2 := fun o => keepa o c12_o70_2
    have rP0 := P0.out.below hb'; clear P0; have P0 := Lib.hid rP0; clear rP0
    have rP1 := P1.out.below hb'; clear P1; have P1 := Lib.hid rP1; clear rP1
    have rP2 := P2.out.below hb'; clear P2; have P2 := Lib.hid rP2; clear rP2
    have rFo52 := Fo52.out.below hb'; clear Fo52; have Fo52 := Lib.hid rFo52; clear rFo52
    have rFo54 := Fo54.out.below hb'; clear Fo54; have Fo54 := Lib.hid rFo54; clear rFo54
    have rFo60 := Fo60.out.below hb'; clear Fo60; have Fo60 := Lib.hid rFo60; clear rFo60
    have rFo61 := Fo61.out.below hb'; clear Fo61; have Fo61 := Lib.hid rFo61; clear rFo61
    have rFo70 := Fo70.out.below hb'; clear Fo70; have Fo70 := Lib.hid rFo70; clear rFo70
    have rFo78 := Fo78.out.below hb'; clear Fo78; have Fo78 := Lib.hid rFo78; clear rFo78
    have rB := below_chain B.out (by omega) hb'; clear B; have B := Lib.hid rB; clear rB
    have em12 : Below w10.heap.size w10 w12 := below_chain em11 (by omega) hb'
    clear hb hb'
    go_wp2_with fail
    refine hK _ _ ⟨⟨_, em12⟩, rfl⟩ ?_
    clear hK K
    repeat (first | (refine Mix.wpMix_read (by rfl) ?_; go_big_quiet_step (fail); refine wpQuiet_nil ?_) | (refine Mix.wpMix_pure (by rfl) ?_; go_big_quiet_step (fail); refine wpQuiet_nil ?_))
    (refine Mix.wpMix_nil ?_; try simp only [Exit.then])
    clear fx_c10_a0_0
    clear fx_c10_a0_1
    clear fx_c10_a0_2
    clear fx_c10_a1_0
    clear fx_c10_a1_1
    clear fx_c10_a1_2
    clear fx_c10_a1_3
    clear fx_c10_a1_4
    clear fx_c10_a1_5
    clear fx_c10_o52_0
    clear fx_c10_o52_1
    clear fx_c10_o52_2
    clear fx_c10_o54_0
    clear fx_c10_o54_1
    clear fx_c10_o54_2
    clear fx_c10_o60_0
    clear fx_c10_o60_1
    clear fx_c10_o60_2
    clear fx_c10_o60_3
    clear fx_c10_o60_4
    clear fx_c10_o60_5
    clear fx_c10_o70_0
    clear fx_c10_o70_1
    clear fx_c10_o70_2
    clear Fo78
    go_wp2_with fail
    refine (toInt64S_c _ _ _ _ _ (by exact (P2.out.1)) (by omega)).mono ?_
    rintro e w13 ⟨rfl, q13, hb⟩
    have hb' : Below w12.heap.size w12 w13 := (by first | (with_reducible exact hb) | (with_reducible exact up1 hb) | (with_reducible exact up2 hb) | (with_reducible exact up3 hb) | (with_reducible exact up4 hb) | (with_reducible exact below_of_drew hb) | (with_reducible exact below_of_drew (up1 hb)))
    have z13 := hb'.size
    have c13_a0_0 : w13.cell? ⟨w.heap.size, 0, none⟩ = some (.int .i64 sy0) := keepc hb' c12_a0_0
    clear c12_a0_0 ac12_a0_0
    have c13_a0_1 : w13.cell? ⟨w.heap.size, 1, none⟩ = some (.int .i64 st0) := keepc hb' c12_a0_1
    clear c12_a0_1 ac12_a0_1
    have c13_a0_2 : w13.cell? ⟨w.heap.size, 2, none⟩ = some (.slice A0 n0 c0) := keepc hb' c12_a0_2
    clear c12_a0_2 ac12_a0_2
    have c13_a1_0 : w13.cell? ⟨(w.heap.size + 1), 0, none⟩ = some (.int .i64 st1) := keepc hb' c12_a1_0
    clear c12_a1_0 ac12_a1_0
    have c13_a1_1 : w13.cell? ⟨(w.heap.size + 1), 1, none⟩ = some (.int .i64 hd1) := keepc hb' c12_a1_1
    clear c12_a1_1 ac12_a1_1
    have c13_a1_2 : w13.cell? ⟨(w.heap.size + 1), 2, none⟩ = some (.int .i64 at1) := keepc hb' c12_a1_2
    clear c12_a1_2 ac12_a1_2
    have c13_a1_3 : w13.cell? ⟨(w.heap.size + 1), 3, none⟩ = some (.slice A1 n1 c1) := keepc hb' c12_a1_3
    clear c12_a1_3 ac12_a1_3
    have c13_a1_4 : w13.cell? ⟨(w.heap.size + 1), 4, none⟩ = some (.slice B1 m1 d1) := keepc hb' c12_a1_4
    clear c12_a1_4 ac12_a1_4
    have c13_a1_5 : w13.cell? ⟨(w.heap.size + 1), 5, none⟩ = some (.slice C1 k1 e1) := keepc hb' c12_a1_5
    clear c12_a1_5 ac12_a1_5
    have c13_o52_0 : w13.cell? ⟨g17, 0, none⟩ = some (.int .i64 (fatR sy0 st0 xs0 st1 hd1 at1 (its1.map It.xs) (jts1.map It.xs) xs1 xs2).1.1) := keepc hb' c12_o52_0
    clear c12_o52_0 ac12_o52_0
    have c13_o52_1 : w13.cell? ⟨g17, 1, none⟩ = some (.slice A11 n12 c13) := keepc hb' c12_o52_1
    clear c12_o52_1 ac12_o52_1
    have c13_o52_2 : w13.cell? ⟨g17, 2, none⟩ = some (.slice B14 m15 d16) := keepc hb' c12_o52_2
    clear c12_o52_2 ac12_o52_2
    have c13_o54_0 : w13.cell? ⟨w4.heap.size, 0, none⟩ = some (.int .i64 sy0) := keepc hb' c12_o54_0
    clear c12_o54_0 ac12_o54_0
    have c13_o54_1 : w13.cell? ⟨w4.heap.size, 1, none⟩ = some (.int .i64 st0) := keepc hb' c12_o54_1
    clear c12_o54_1 ac12_o54_1
    have c13_o54_2 : w13.cell? ⟨w4.heap.size, 2, none⟩ = some (.slice (some ⟨g053, 0, none⟩) n0 n0) := keepc hb' c12_o54_2
    clear c12_o54_2 ac12_o54_2
    have c13_o60_0 : w13.cell? ⟨w5.heap.size, 0, none⟩ = some (.int .i64 st1) := keepc hb' c12_o60_0
    clear c12_o60_0 ac12_o60_0
    have c13_o60_1 : w13.cell? ⟨w5.heap.size, 1, none⟩ = some (.int .i64 hd1) := keepc hb' c12_o60_1
    clear c12_o60_1 ac12_o60_1
    have c13_o60_2 : w13.cell? ⟨w5.heap.size, 2, none⟩ = some (.int .i64 at1) := keepc hb' c12_o60_2
    clear c12_o60_2 ac12_o60_2
    have c13_o60_3 : w13.cell? ⟨w5.heap.size, 3, none⟩ = some (.slice (some ⟨g055, 0, none⟩) n1 n1) := keepc hb' c12_o60_3
    clear c12_o60_3 ac12_o60_3
    have c13_o60_4 : w13.cell? ⟨w5.heap.size, 4, none⟩ = some (.slice (some ⟨g157, 0, none⟩) m1 m1) := keepc hb' c12_o60_4
    clear c12_o60_4 ac12_o60_4
    have c13_o60_5 : w13.cell? ⟨w5.heap.size, 5, none⟩ = some (.slice (some ⟨g259, 0, none⟩) k1 k1) := keepc hb' c12_o60_5
    clear c12_o60_5 ac12_o60_5
    have c13_o70_0 : w13.cell? ⟨w7.heap.size, 0, none⟩ = some (.int .i64 (fatR sy0 st0 xs0 st1 hd1 at1 (its1.map It.xs) (jts1.map It.xs) xs1 xs2).1.1) := keepc hb' c12_o70_0
    clear c12_o70_0 ac12_o70_0
    have c13_o70_1 : w13.cell? ⟨w7.heap.size, 1, none⟩ = some (.slice A62 n63 c64) := keepc hb' c12_o70_1
    clear c12_o70_1 ac12_o70_1
    have c13_o70_2 : w13.cell? ⟨w7.heap.size, 2, none⟩ = some (.slice B65 m66 d67) := keepc hb' c12_o70_2
    clear c12_o70_2 ac12_o70_2
    have ac13_a0_0 := fun o => keepa o c13_a0_0
    have ac13_a0_1 := fun o => keepa o c13_a0_1
    have ac13_a0_2 := fun o => keepa o c13_a0_2
    have ac13_a1_0 := fun o => keepa o c13_a1_0
    have ac13_a1_1 := fun o => keepa o c13_a1_1
    have ac13_a1_2 := fun o => keepa o c13_a1_2
    have ac13_a1_3 := fun o => keepa o c13_a1_3
    have ac13_a1_4 := fun o => keepa o c13_a1_4
    have ac13_a1_5 := fun o => keepa o c13_a1_5
    have ac13_o52_0 := fun o => keepa o c13_o52_0
    have ac13_o52_1 := fun o => keepa o c13_o52_1
    have ac13_o52_2 := fun o => keepa o c13_o52_2
    have ac13_o54_0 := fun o => keepa o c13_o54_0
    have ac13_o54_1 := fun o => keepa o c13_o54_1
    have ac13_o54_2 := fun o => keepa o c13_o54_2
    have ac13_o60_0 := fun o => keepa o c13_o60_0
    have ac13_o60_1 := fun o => keepa o c13_o60_1
    have ac13_o60_2 := fun o => keepa o c13_o60_2
    have ac13_o60_3 := fun o => keepa o c13_o60_3
    have ac13_o60_4 := fun o => keepa o c13_o60_4
    have ac13_o60_5 := fun o => keepa o c13_o60_5
    have ac13_o70_0 := fun o => keepa o c13_o70_0
    have ac13_o70_1 := fun o => keepa o c13_o70_1
    have ac13_o70_2 := fun o => keepa o c13_o70_2
    have rP0 := P0.out.below hb'; clear P0; have P0 := Lib.hid rP0; clear rP0
    have rP1 := P1.out.below hb'; clear P1; have P1 := Lib.hid rP1; clear rP1
    have rP2 := P2.out.below hb'; clear P2; have P2 := Lib.hid rP2; clear rP2
    have rFo52 := Fo52.out.below hb'; clear Fo52; have Fo52 := Lib.hid rFo52; clear rFo52
    have rFo54 := Fo54.out.below hb'; clear Fo54; have Fo54 := Lib.hid rFo54; clear rFo54
    have rFo60 := Fo60.out.below hb'; clear Fo60; have Fo60 := Lib.hid rFo60; clear rFo60
    have rFo61 := Fo61.out.below hb'; clear Fo61; have Fo61 := Lib.hid rFo61; clear rFo61
    have rFo70 := Fo70.out.below hb'; clear Fo70; have Fo70 := Lib.hid rFo70; clear rFo70
    have rB := below_chain B.out (by omega) hb'; clear B; have B := Lib.hid rB; clear rB
    have Fo79 := Lib.hid q13; clear q13
    clear hb hb'
    go_wp2_with fail
    refine (eqInt64S_t _ _ _ _ _ _ _ _ (by exact (Fo61.out.rdI)) (by exact (Fo79.out.rdI)) (by omega)).mono ?_
    rintro e w14 ⟨rfl, hb⟩
    have hb' : Below w13.heap.size w13 w14 := (by first | (with_reducible exact hb) | (with_reducible exact up1 hb) | (with_reducible exact up2 hb) | (with_reducible exact up3 hb) | (with_reducible exact up4 hb) | (with_reducible exact below_of_drew hb) | (with_reducible exact below_of_drew (up1 hb)))
    have z14 := hb'.size
    have c14_a0_0 : w14.cell? ⟨w.heap.size, 0, none⟩ = some (.int .i64 sy0) := keepc hb' c13_a0_0
    clear c13_a0_0 ac13_a0_0
    have c14_a0_1 : w14.cell? ⟨w.heap.size, 1, none⟩ = some (.int .i64 st0) := keepc hb' c13_a0_1
    clear c13_a0_1 ac13_a0_1
    have c14_a0_2 : w14.cell? ⟨w.heap.size, 2, none⟩ = some (.slice A0 n0 c0) := keepc hb' c13_a0_2
    clear c13_a0_2 ac13_a0_2
    have c14_a1_0 : w14.cell? ⟨(w.heap.size + 1), 0, none⟩ = some (.int .i64 st1) := keepc hb' c13_a1_0
    clear c13_a1_0 ac13_a1_0
    have c14_a1_1 : w14.cell? ⟨(w.heap.size + 1), 1, none⟩ = some (.int .i64 hd1) := keepc hb' c13_a1_1
    clear c13_a1_1 ac13_a1_1
    have c14_a1_2 : w14.cell? ⟨(w.heap.size + 1), 2, none⟩ = some (.int .i64 at1) := keepc hb' c13_a1_2
    clear c13_a1_2 ac13_a1_2
    have c14_a1_3 : w14.cell? ⟨(w.heap.size + 1), 3, none⟩ = some (.slice A1 n1 c1) := keepc hb' c13_a1_3
    clear c13_a1_3 ac13_a1_3
    have c14_a1_4 : w14.cell? ⟨(w.heap.size + 1), 4, none⟩ = some (.slice B1 m1 d1) := keepc hb' c13_a1_4
    clear c13_a1_4 ac13_a1_4
    have c14_a1_5 : w14.cell? ⟨(w.heap.size + 1), 5, none⟩ = some (.slice C1 k1 e1) := keepc hb' c13_a1_5
    clear c13_a1_5 ac13_a1_5
    have c14_o52_0 : w14.cell? ⟨g17, 0, none⟩ = some (.int .i64 (fatR sy0 st0 xs0 st1 hd1 at1 (its1.map It.xs) (jts1.map It.xs) xs1 xs2).1.1) := keepc hb' c13_o52_0
    clear c13_o52_0 ac13_o52_0
    have c14_o52_1 : w14.cell? ⟨g17, 1, none⟩ = some (.slice A11 n12 c13) := keepc hb' c13_o52_1
    clear c13_o52_1 ac13_o52_1
    have c14_o52_2 : w14.cell? ⟨g17, 2, none⟩ = some (.slice B14 m15 d16) := keepc hb' c13_o52_2
    clear c13_o52_2 ac13_o52_2
    have c14_o54_0 : w14.cell? ⟨w4.heap.size, 0, none⟩ = some (.int .i64 sy0) := keepc hb' c13_o54_0
    clear c13_o54_0 ac13_o54_0
    have c14_o54_1 : w14.cell? ⟨w4.heap.size, 1, none⟩ = some (.int .i64 st0) := keepc hb' c13_o54_1
    clear c13_o54_1 ac13_o54_1
    have c14_o54_2 : w14.cell? ⟨w4.heap.size, 2, none⟩ = some (.slice (some ⟨g053, 0, none⟩) n0 n0) := keepc hb' c13_o54_2
    clear c13_o54_2 ac13_o54_2
    have c14_o60_0 : w14.cell? ⟨w5.heap.size, 0, none⟩ = some (.int .i64 st1) := keepc hb' c13_o60_0
    clear c13_o60_0 ac13_o60_0
    have c14_o60_1 : w14.cell? ⟨w5.heap.size, 1, none⟩ = some (.int .i64 hd1) := keepc hb' c13_o60_1
    clear c13_o60_1 ac13_o60_1
    have c14_o60_2 : w14.cell? ⟨w5.heap.size, 2, none⟩ = some (.int .i64 at1) := keepc hb' c13_o60_2
    clear c13_o60_2 ac13_o60_2
    have c14_o60_3 : w14.cell? ⟨w5.heap.size, 3, none⟩ = some (.slice (some ⟨g055, 0, none⟩) n1 n1) := keepc hb' c13_o60_3
    clear c13_o60_3 ac13_o60_3
    have c14_o60_4 : w14.cell? ⟨w5.heap.size, 4, none⟩ = some (.slice (some ⟨g157, 0, none⟩) m1 m1) := keepc hb' c13_o60_4
    clear c13_o60_4 ac13_o60_4
    have c14_o60_5 : w14.cell? ⟨w5.heap.size, 5, none⟩ = some (.slice (some ⟨g259, 0, none⟩) k1 k1) := keepc hb' c13_o60_5
    clear c13_o60_5 ac13_o60_5
    have c14_o70_0 : w14.cell? ⟨w7.heap.size, 0, none⟩ = some (.int .i64 (fatR sy0 st0 xs0 st1 hd1 at1 (its1.map It.xs) (jts1.map It.xs) xs1 xs2).1.1) := keepc hb' c13_o70_0
    clear c13_o70_0 ac13_o70_0
    have c14_o70_1 : w14.cell? ⟨w7.heap.size, 1, none⟩ = some (.slice A62 n63 c64) := keepc hb' c13_o70_1
    clear c13_o70_1 ac13_o70_1
    have c14_o70_2 : w14.cell? ⟨w7.heap.size, 2, none⟩ = some (.slice B65 m66 d67) := keepc hb' c13_o70_2
    clear c13_o70_2 ac13_o70_2
    have ac14_a0_0 := fun o => keepa o c14_a0_0
    have ac14_a0_1 := fun o => keepa o c14_a0_1
    have ac14_a0_2 := fun o => keepa o c14_a0_2
    have ac14_a1_0 := fun o => keepa o c14_a1_0
    have ac14_a1_1 := fun o => keepa o c14_a1_1
    have ac14_a1_2 := fun o => keepa o c14_a1_2
    have ac14_a1_3 := fun o => keepa o c14_a1_3
    have ac14_a1_4 := fun o => keepa o c14_a1_4
    have ac14_a1_5 := fun o => keepa o c14_a1_5
    have ac14_o52_0 := fun o => keepa o c14_o52_0
    have ac14_o52_1 := fun o => keepa o c14_o52_1
    have ac14_o52_2 := fun o => keepa o c14_o52_2
    have ac14_o54_0 := fun o => keepa o c14_o54_0
    have ac14_o54_1 := fun o => keepa o c14_o54_1
    have ac14_o54_2 := fun o => keepa o c14_o54_2
    have ac14_o60_0 := fun o => keepa o c14_o60_0
    have ac14_o60_1 := fun o => keepa o c14_o60_1
    have ac14_o60_2 := fun o => keepa o c14_o60_2
    have ac14_o60_3 := fun o => keepa o c14_o60_3
    have ac14_o60_4 := fun o => keepa o c14_o60_4
    have ac14_o60_5 := fun o => keepa o c14_o60_5
    have ac14_o70_0 := fun o => keepa o c14_o70_0
    have ac14_o70_1 := fun o => keepa o c14_o70_1
    have ac14_o70_2 := fun o => keepa o c14_o70_2
    have rP0 := P0.out.below hb'; clear P0; have P0 := Lib.hid rP0; clear rP0
    have rP1 := P1.out.below hb'; clear P1; have P1 := Lib.hid rP1; clear rP1
    have rP2 := P2.out.below hb'; clear P2; have P2 := Lib.hid rP2; clear rP2
    have rFo52 := Fo52.out.below hb'; clear Fo52; have Fo52 := Lib.hid rFo52; clear rFo52
    have rFo54 := Fo54.out.below hb'; clear Fo54; have Fo54 := Lib.hid rFo54; clear rFo54
    have rFo60 := Fo60.out.below hb'; clear Fo60; have Fo60 := Lib.hid rFo60; clear rFo60
    have rFo61 := Fo61.out.below hb'; clear Fo61; have Fo61 := Lib.hid rFo61; clear rFo61
    have rFo70 := Fo70.out.below hb'; clear Fo70; have Fo70 := Lib.hid rFo70; clear rFo70
    have rFo79 := Fo79.out.below hb'; clear Fo79; have Fo79 := Lib.hid rFo79; clear rFo79
    have rB := below_chain B.out (by omega) hb'; clear B; have B := Lib.hid rB; clear rB
    clear hb hb'
    go_wp2_with fail
    refine (markMachine_c _ _ _ _ _ _ _ _ _ _ (by exact (Fo54.out)) (by omega) (by omega) (by omega)).mono ?_
    rintro e w15 ⟨rfl, q15, hk⟩
    have hk' : KeepR w3.heap.size w4.heap.size w14 w15 := (by first | (with_reducible exact hk) | (with_reducible exact hk.up1) | (with_reducible exact hk.up1.up1))
    have z15 := hk'.size
    have c15_a0_0 : w15.cell? ⟨w.heap.size, 0, none⟩ = some (.int .i64 sy0) := hk'.cell (by simp <;> omega) c14_a0_0
    clear c14_a0_0 ac14_a0_0
    have c15_a0_1 : w15.cell? ⟨w.heap.size, 1, none⟩ = some (.int .i64 st0) := hk'.cell (by simp <;> omega) c14_a0_1
    clear c14_a0_1 ac14_a0_1
    have c15_a0_2 : w15.cell? ⟨w.heap.size, 2, none⟩ = some (.slice A0 n0 c0) := hk'.cell (by simp <;> omega) c14_a0_2
    clear c14_a0_2 ac14_a0_2
    have c15_a1_0 : w15.cell? ⟨(w.heap.size + 1), 0, none⟩ = some (.int .i64 st1) := hk'.cell (by simp <;> omega) c14_a1_0
    clear c14_a1_0 ac14_a1_0
    have c15_a1_1 : w15.cell? ⟨(w.heap.size + 1), 1, none⟩ = some (.int .i64 hd1) := hk'.cell (by simp <;> omega) c14_a1_1
    clear c14_a1_1 ac14_a1_1
    have c15_a1_2 : w15.cell? ⟨(w.heap.size + 1), 2, none⟩ = some (.int .i64 at1) := hk'.cell (by simp <;> omega) c14_a1_2
    clear c14_a1_2 ac14_a1_2
    have c15_a1_3 : w15.cell? ⟨(w.heap.size + 1), 3, none⟩ = some (.slice A1 n1 c1) := hk'.cell (by simp <;> omega) c14_a1_3
    clear c14_a1_3 ac14_a1_3
    have c15_a1_4 : w15.cell? ⟨(w.heap.size + 1), 4, none⟩ = some (.slice B1 m1 d1) := hk'.cell (by simp <;> omega) c14_a1_4
    clear c14_a1_4 ac14_a1_4
    have c15_a1_5 : w15.cell? ⟨(w.heap.size + 1), 5, none⟩ = some (.slice C1 k1 e1) := hk'.cell (by simp <;> omega) c14_a1_5
    clear c14_a1_5 ac14_a1_5
    have c15_o52_0 : w15.cell? ⟨g17, 0, none⟩ = some (.int .i64 (fatR sy0 st0 xs0 st1 hd1 at1 (its1.map It.xs) (jts1.map It.xs) xs1 xs2).1.1) := hk'.cell (by simp <;> omega) c14_o52_0
    clear c14_o52_0 ac14_o52_0
    have c15_o52_1 : w15.cell? ⟨g17, 1, none⟩ = some (.slice A11 n12 c13) := hk'.cell (by simp <;> omega) c14_o52_1
    clear c14_o52_1 ac14_o52_1
    have c15_o52_2 : w15.cell? ⟨g17, 2, none⟩ = some (.slice B14 m15 d16) := hk'.cell (by simp <;> omega) c14_o52_2
    clear c14_o52_2 ac14_o52_2
    have c15_o54_0 : w15.cell? ⟨w4.heap.size, 0, none⟩ = some (.int .i64 sy0) := hk'.cell (by simp <;> omega) c14_o54_0
    clear c14_o54_0 ac14_o54_0
    have c15_o54_1 : w15.cell? ⟨w4.heap.size, 1, none⟩ = some (.int .i64 st0) := hk'.cell (by simp <;> omega) c14_o54_1
    clear c14_o54_1 ac14_o54_1
    have c15_o54_2 : w15.cell? ⟨w4.heap.size, 2, none⟩ = some (.slice (some ⟨g053, 0, none⟩) n0 n0) := hk'.cell (by simp <;> omega) c14_o54_2
    clear c14_o54_2 ac14_o54_2
    have c15_o60_0 : w15.cell? ⟨w5.heap.size, 0, none⟩ = some (.int .i64 st1) := hk'.cell (by simp <;> omega) c14_o60_0
    clear c14_o60_0 ac14_o60_0
    have c15_o60_1 : w15.cell? ⟨w5.heap.size, 1, none⟩ = some (.int .i64 hd1) := hk'.cell (by simp <;> omega) c14_o60_1
    clear c14_o60_1 ac14_o60_1
    have c15_o60_2 : w15.cell? ⟨w5.heap.size, 2, none⟩ = some (.int .i64 at1) := hk'.cell (by simp <;> omega) c14_o60_2
    clear c14_o60_2 ac14_o60_2
    have c15_o60_3 : w15.cell? ⟨w5.heap.size, 3, none⟩ = some (.slice (some ⟨g055, 0, none⟩) n1 n1) := hk'.cell (by simp <;> omega) c14_o60_3
    clear c14_o60_3 ac14_o60_3
    have c15_o60_4 : w15.cell? ⟨w5.heap.size, 4, none⟩ = some (.slice (some ⟨g157, 0, none⟩) m1 m1) := hk'.cell (by simp <;> omega) c14_o60_4
    clear c14_o60_4 ac14_o60_4
    have c15_o60_5 : w15.cell? ⟨w5.heap.size, 5, none⟩ = some (.slice (some ⟨g259, 0, none⟩) k1 k1) := hk'.cell (by simp <;> omega) c14_o60_5
    clear c14_o60_5 ac14_o60_5
    have c15_o70_0 : w15.cell? ⟨w7.heap.size, 0, none⟩ = some (.int .i64 (fatR sy0 st0 xs0 st1 hd1 at1 (its1.map It.xs) (jts1.map It.xs) xs1 xs2).1.1) := hk'.cell (by simp <;> omega) c14_o70_0
    clear c14_o70_0 ac14_o70_0
    have c15_o70_1 : w15.cell? ⟨w7.heap.size, 1, none⟩ = some (.slice A62 n63 c64) := hk'.cell (by simp <;> omega) c14_o70_1
    clear c14_o70_1 ac14_o70_1
    have c15_o70_2 : w15.cell? ⟨w7.heap.size, 2, none⟩ = some (.slice B65 m66 d67) := hk'.cell (by simp <;> omega) c14_o70_2
    clear c14_o70_2 ac14_o70_2
    have ac15_a0_0 := fun o => keepa o c15_a0_0
    have ac15_a0_1 := fun o => keepa o c15_a0_1
    have ac15_a0_2 := fun o => keepa o c15_a0_2
    have ac15_a1_0 := fun o => keepa o c15_a1_0
    have ac15_a1_1 := fun o => keepa o c15_a1_1
    have ac15_a1_2 := fun o => keepa o c15_a1_2
    have ac15_a1_3 := fun o => keepa o c15_a1_3
    have ac15_a1_4 := fun o => keepa o c15_a1_4
    have ac15_a1_5 := fun o => keepa o c15_a1_5
    have ac15_o52_0 := fun o => keepa o c15_o52_0
    have ac15_o52_1 := fun o => keepa o c15_o52_1
    have ac15_o52_2 := fun o => keepa o c15_o52_2
    have ac15_o54_0 := fun o => keepa o c15_o54_0
    have ac15_o54_1 := fun o => keepa o c15_o54_1
    have ac15_o54_2 := fun o => keepa o c15_o54_2
    have ac15_o60_0 := fun o => keepa o c15_o60_0
    have ac15_o60_1 := fun o => keepa o c15_o60_1
    have ac15_o60_2 := fun o => keepa o c15_o60_2
    have ac15_o60_3 := fun o => keepa o c15_o60_3
    have ac15_o60_4 := fun o => keepa o c15_o60_4
    have ac15_o60_5 := fun o => keepa o c15_o60_5
    have ac15_o70_0 := fun o => keepa o c15_o70_0
    have ac15_o70_1 := fun o => keepa o c15_o70_1
    have ac15_o70_2 := fun o => keepa o c15_o70_2
    have rP0 := P0.out.keep hk' (by omega); clear P0; have P0 := Lib.hid rP0; clear rP0
    have rP1 := P1.out.keep hk' (by omega); clear P1; have P1 := Lib.hid rP1; clear rP1
    have rP2 := P2.out.keep hk' (by omega); clear P2; have P2 := Lib.hid rP2; clear rP2
    have rFo52 := Fo52.out.keep hk' (by omega); clear Fo52; have Fo52 := Lib.hid rFo52; clear rFo52
    have rFo54 := q15; clear Fo54; have Fo54 := Lib.hid rFo54; clear rFo54 q15
    have rFo60 := Fo60.out.keep hk' (by omega); clear Fo60; have Fo60 := Lib.hid rFo60; clear rFo60
    have rFo61 := Fo61.out.keep hk' (by omega); clear Fo61; have Fo61 := Lib.hid rFo61; clear rFo61
    have rFo70 := Fo70.out.keep hk' (by omega); clear Fo70; have Fo70 := Lib.hid rFo70; clear rFo70
    have rFo79 := Fo79.out.keep hk' (by omega); clear Fo79; have Fo79 := Lib.hid rFo79; clear rFo79
    have rB := B.out.trans (hk'.below (B := w.heap.size) (by omega) (by omega)); clear B; have B := Lib.hid rB; clear rB
    clear hk hk'
    go_wp2_with fail
    refine (markFormula_c _ _ _ _ _ _ _ _ _ _ _ _ _ _ _ _ _ _ _ (by exact (Fo60.out)) (by omega) (by omega) (by omega) hI0_o60 (by omega) hI1_o60 (by omega) (by first | omega | (simp; omega)) (by omega) (by omega)).mono ?_
    rintro e w16 ⟨rfl, q16, hk⟩
    have hk' : KeepR (w4.heap.size + 1) w5.heap.size w15 w16 := (by first | (with_reducible exact hk) | (with_reducible exact hk.up1) | (with_reducible exact hk.up1.up1))
    have z16 := hk'.size
    have c16_a0_0 : w16.cell? ⟨w.heap.size, 0, none⟩ = some (.int .i64 sy0) := hk'.cell (by simp <;> omega) c15_a0_0
    clear c15_a0_0 ac15_a0_0
    have c16_a0_1 : w16.cell? ⟨w.heap.size, 1, none⟩ = some (.int .i64 st0) := hk'.cell (by simp <;> omega) c15_a0_1
    clear c15_a0_1 ac15_a0_1
    have c16_a0_2 : w16.cell? ⟨w.heap.size, 2, none⟩ = some (.slice A0 n0 c0) := hk'.cell (by simp <;> omega) c15_a0_2
    clear c15_a0_2 ac15_a0_2
    have c16_a1_0 : w16.cell? ⟨(w.heap.size + 1), 0, none⟩ = some (.int .i64 st1) := hk'.cell (by simp <;> omega) c15_a1_0
    clear c15_a1_0 ac15_a1_0
    have c16_a1_1 : w16.cell? ⟨(w.heap.size + 1), 1, none⟩ = some (.int .i64 hd1) := hk'.cell (by simp <;> omega) c15_a1_1
    clear c15_a1_1 ac15_a1_1
    have c16_a1_2 : w16.cell? ⟨(w.heap.size + 1), 2, none⟩ = some (.int .i64 at1) := hk'.cell (by simp <;> omega) c15_a1_2
    clear c15_a1_2 ac15_a1_2
    have c16_a1_3 : w16.cell? ⟨(w.heap.size + 1), 3, none⟩ = some (.slice A1 n1 c1) := hk'.cell (by simp <;> omega) c15_a1_3
    clear c15_a1_3 ac15_a1_3
    have c16_a1_4 : w16.cell? ⟨(w.heap.size + 1), 4, none⟩ = some (.slice B1 m1 d1) := hk'.cell (by simp <;> omega) c15_a1_4
    clear c15_a1_4 ac15_a1_4
    have c16_a1_5 : w16.cell? ⟨(w.heap.size + 1), 5, none⟩ = some (.slice C1 k1 e1) := hk'.cell (by simp <;> omega) c15_a1_5
    clear c15_a1_5 ac15_a1_5
    have c16_o52_0 : w16.cell? ⟨g17, 0, none⟩ = some (.int .i64 (fatR sy0 st0 xs0 st1 hd1 at1 (its1.map It.xs) (jts1.map It.xs) xs1 xs2).1.1) := hk'.cell (by simp <;> omega) c15_o52_0
    clear c15_o52_0 ac15_o52_0
    have c16_o52_1 : w16.cell? ⟨g17, 1, none⟩ = some (.slice A11 n12 c13) := hk'.cell (by simp <;> omega) c15_o52_1
    clear c15_o52_1 ac15_o52_1
    have c16_o52_2 : w16.cell? ⟨g17, 2, none⟩ = some (.slice B14 m15 d16) := hk'.cell (by simp <;> omega) c15_o52_2
    clear c15_o52_2 ac15_o52_2
    have c16_o54_0 : w16.cell? ⟨w4.heap.size, 0, none⟩ = some (.int .i64 sy0) := hk'.cell (by simp <;> omega) c15_o54_0
    clear c15_o54_0 ac15_o54_0
    have c16_o54_1 : w16.cell? ⟨w4.heap.size, 1, none⟩ = some (.int .i64 st0) := hk'.cell (by simp <;> omega) c15_o54_1
    clear c15_o54_1 ac15_o54_1
    have c16_o54_2 : w16.cell? ⟨w4.heap.size, 2, none⟩ = some (.slice (some ⟨g053, 0, none⟩) n0 n0) := hk'.cell (by simp <;> omega) c15_o54_2
    clear c15_o54_2 ac15_o54_2
    have c16_o60_0 : w16.cell? ⟨w5.heap.size, 0, none⟩ = some (.int .i64 st1) := hk'.cell (by simp <;> omega) c15_o60_0
    clear c15_o60_0 ac15_o60_0
    have c16_o60_1 : w16.cell? ⟨w5.heap.size, 1, none⟩ = some (.int .i64 hd1) := hk'.cell (by simp <;> omega) c15_o60_1
    clear c15_o60_1 ac15_o60_1
    have c16_o60_2 : w16.cell? ⟨w5.heap.size, 2, none⟩ = some (.int .i64 at1) := hk'.cell (by simp <;> omega) c15_o60_2
    clear c15_o60_2 ac15_o60_2
    have c16_o60_3 : w16.cell? ⟨w5.heap.size, 3, none⟩ = some (.slice (some ⟨g055, 0, none⟩) n1 n1) := hk'.cell (by simp <;> omega) c15_o60_3
    clear c15_o60_3 ac15_o60_3
    have c16_o60_4 : w16.cell? ⟨w5.heap.size, 4, none⟩ = some (.slice (some ⟨g157, 0, none⟩) m1 m1) := hk'.cell (by simp <;> omega) c15_o60_4
    clear c15_o60_4 ac15_o60_4
    have c16_o60_5 : w16.cell? ⟨w5.heap.size, 5, none⟩ = some (.slice (some ⟨g259, 0, none⟩) k1 k1) := hk'.cell (by simp <;> omega) c15_o60_5
    clear c15_o60_5 ac15_o60_5
    have c16_o70_0 : w16.cell? ⟨w7.heap.size, 0, none⟩ = some (.int .i64 (fatR sy0 st0 xs0 st1 hd1 at1 (its1.map It.xs) (jts1.map It.xs) xs1 xs2).1.1) := hk'.cell (by simp <;> omega) c15_o70_0
    clear c15_o70_0 ac15_o70_0
    have c16_o70_1 : w16.cell? ⟨w7.heap.size, 1, none⟩ = some (.slice A62 n63 c64) := hk'.cell (by simp <;> omega) c15_o70_1
    clear c15_o70_1 ac15_o70_1
    have c16_o70_2 : w16.cell? ⟨w7.heap.size, 2, none⟩ = some (.slice B65 m66 d67) := hk'.cell (by simp <;> omega) c15_o70_2
    clear c15_o70_2 ac15_o70_2
    have ac16_a0_0 := fun o => keepa o c16_a0_0
    have ac16_a0_1 := fun o => keepa o c16_a0_1
    have ac16_a0_2 := fun o => keepa o c16_a0_2
    have ac16_a1_0 := fun o => keepa o c16_a1_0
    have ac16_a1_1 := fun o => keepa o c16_a1_1
    have ac16_a1_2 := fun o => keepa o c16_a1_2
    have ac16_a1_3 := fun o => keepa o c16_a1_3
    have ac16_a1_4 := fun o => keepa o c16_a1_4
    have ac16_a1_5 := fun o => keepa o c16_a1_5
    have ac16_o52_0 := fun o => keepa o c16_o52_0
    have ac16_o52_1 := fun o => keepa o c16_o52_1
    have ac16_o52_2 := fun o => keepa o c16_o52_2
    have ac16_o54_0 := fun o => keepa o c16_o54_0
    have ac16_o54_1 := fun o => keepa o c16_o54_1
    have ac16_o54_2 := fun o => keepa o c16_o54_2
    have ac16_o60_0 := fun o => keepa o c16_o60_0
    have ac16_o60_1 := fun o => keepa o c16_o60_1
    have ac16_o60_2 := fun o => keepa o c16_o60_2
    have ac16_o60_3 := fun o => keepa o c16_o60_3
    have ac16_o60_4 := fun o => keepa o c16_o60_4
    have ac16_o60_5 := fun o => keepa o c16_o60_5
    have ac16_o70_0 := fun o => keepa o c16_o70_0
    have ac16_o70_1 := fun o => keepa o c16_o70_1
    have ac16_o70_2 := fun o => keepa o c16_o70_2
    have rP0 := P0.out.keep hk' (by omega); clear P0; have P0 := Lib.hid rP0; clear rP0
    have rP1 := P1.out.keep hk' (by omega); clear P1; have P1 := Lib.hid rP1; clear rP1
    have rP2 := P2.out.keep hk' (by omega); clear P2; have P2 := Lib.hid rP2; clear rP2
    have rFo52 := Fo52.out.keep hk' (by omega); clear Fo52; have Fo52 := Lib.hid rFo52; clear rFo52
    have rFo54 := Fo54.out.keep hk' (by omega); clear Fo54; have Fo54 := Lib.hid rFo54; clear rFo54
    have rFo60 := q16; clear Fo60; have Fo60 := Lib.hid rFo60; clear rFo60 q16
    have rFo61 := Fo61.out.keep hk' (by omega); clear Fo61; have Fo61 := Lib.hid rFo61; clear rFo61
    have rFo70 := Fo70.out.keep hk' (by omega); clear Fo70; have Fo70 := Lib.hid rFo70; clear rFo70
    have rFo79 := Fo79.out.keep hk' (by omega); clear Fo79; have Fo79 := Lib.hid rFo79; clear rFo79
    have rB := B.out.trans (hk'.below (B := w.heap.size) (by omega) (by omega)); clear B; have B := Lib.hid rB; clear rB
    clear hk hk'
    go_wp2_with fail
    refine (markInt64S_c _ _ _ _ _ _ _ _ (by exact (Fo61.out)) (by omega) (by omega) (by omega)).mono ?_
    rintro e w17 ⟨rfl, q17, hk⟩
    have hk' : KeepR (w5.heap.size + 1) w6.heap.size w16 w17 := (by first | (with_reducible exact hk) | (with_reducible exact hk.up1) | (with_reducible exact hk.up1.up1))
    have z17 := hk'.size
    have c17_a0_0 : w17.cell? ⟨w.heap.size, 0, none⟩ = some (.int .i64 sy0) := hk'.cell (by simp <;> omega) c16_a0_0
    clear c16_a0_0 ac16_a0_0
    have c17_a0_1 : w17.cell? ⟨w.heap.size, 1, none⟩ = some (.int .i64 st0) := hk'.cell (by simp <;> omega) c16_a0_1
    clear c16_a0_1 ac16_a0_1
    have c17_a0_2 : w17.cell? ⟨w.heap.size, 2, none⟩ = some (.slice A0 n0 c0) := hk'.cell (by simp <;> omega) c16_a0_2
    clear c16_a0_2 ac16_a0_2
    have c17_a1_0 : w17.cell? ⟨(w.heap.size + 1), 0, none⟩ = some (.int .i64 st1) := hk'.cell (by simp <;> omega) c16_a1_0
    clear c16_a1_0 ac16_a1_0
    have c17_a1_1 : w17.cell? ⟨(w.heap.size + 1), 1, none⟩ = some (.int .i64 hd1) := hk'.cell (by simp <;> omega) c16_a1_1
    clear c16_a1_1 ac16_a1_1
    have c17_a1_2 : w17.cell? ⟨(w.heap.size + 1), 2, none⟩ = some (.int .i64 at1) := hk'.cell (by simp <;> omega) c16_a1_2
    clear c16_a1_2 ac16_a1_2
    have c17_a1_3 : w17.cell? ⟨(w.heap.size + 1), 3, none⟩ = some (.slice A1 n1 c1) := hk'.cell (by simp <;> omega) c16_a1_3
    clear c16_a1_3 ac16_a1_3
    have c17_a1_4 : w17.cell? ⟨(w.heap.size + 1), 4, none⟩ = some (.slice B1 m1 d1) := hk'.cell (by simp <;> omega) c16_a1_4
    clear c16_a1_4 ac16_a1_4
    have c17_a1_5 : w17.cell? ⟨(w.heap.size + 1), 5, none⟩ = some (.slice C1 k1 e1) := hk'.cell (by simp <;> omega) c16_a1_5
    clear c16_a1_5 ac16_a1_5
    have c17_o52_0 : w17.cell? ⟨g17, 0, none⟩ = some (.int .i64 (fatR sy0 st0 xs0 st1 hd1 at1 (its1.map It.xs) (jts1.map It.xs) xs1 xs2).1.1) := hk'.cell (by simp <;> omega) c16_o52_0
    clear c16_o52_0 ac16_o52_0
    have c17_o52_1 : w17.cell? ⟨g17, 1, none⟩ = some (.slice A11 n12 c13) := hk'.cell (by simp <;> omega) c16_o52_1
    clear c16_o52_1 ac16_o52_1
    have c17_o52_2 : w17.cell? ⟨g17, 2, none⟩ = some (.slice B14 m15 d16) := hk'.cell (by simp <;> omega) c16_o52_2
    clear c16_o52_2 ac16_o52_2
    have c17_o54_0 : w17.cell? ⟨w4.heap.size, 0, none⟩ = some (.int .i64 sy0) := hk'.cell (by simp <;> omega) c16_o54_0
    clear c16_o54_0 ac16_o54_0
    have c17_o54_1 : w17.cell? ⟨w4.heap.size, 1, none⟩ = some (.int .i64 st0) := hk'.cell (by simp <;> omega) c16_o54_1
    clear c16_o54_1 ac16_o54_1
    have c17_o54_2 : w17.cell? ⟨w4.heap.size, 2, none⟩ = some (.slice (some ⟨g053, 0, none⟩) n0 n0) := hk'.cell (by simp <;> omega) c16_o54_2
    clear c16_o54_2 ac16_o54_2
    have c17_o60_0 : w17.cell? ⟨w5.heap.size, 0, none⟩ = some (.int .i64 st1) := hk'.cell (by simp <;> omega) c16_o60_0
    clear c16_o60_0 ac16_o60_0
    have c17_o60_1 : w17.cell? ⟨w5.heap.size, 1, none⟩ = some (.int .i64 hd1) := hk'.cell (by simp <;> omega) c16_o60_1
    clear c16_o60_1 ac16_o60_1
    have c17_o60_2 : w17.cell? ⟨w5.heap.size, 2, none⟩ = some (.int .i64 at1) := hk'.cell (by simp <;> omega) c16_o60_2
    clear c16_o60_2 ac16_o60_2
    have c17_o60_3 : w17.cell? ⟨w5.heap.size, 3, none⟩ = some (.slice (some ⟨g055, 0, none⟩) n1 n1) := hk'.cell (by simp <;> omega) c16_o60_3
    clear c16_o60_3 ac16_o60_3
    have c17_o60_4 : w17.cell? ⟨w5.heap.size, 4, none⟩ = some (.slice (some ⟨g157, 0, none⟩) m1 m1) := hk'.cell (by simp <;> omega) c16_o60_4
    clear c16_o60_4 ac16_o60_4
    have c17_o60_5 : w17.cell? ⟨w5.heap.size, 5, none⟩ = some (.slice (some ⟨g259, 0, none⟩) k1 k1) := hk'.cell (by simp <;> omega) c16_o60_5
    clear c16_o60_5 ac16_o60_5
    have c17_o70_0 : w17.cell? ⟨w7.heap.size, 0, none⟩ = some (.int .i64 (fatR sy0 st0 xs0 st1 hd1 at1 (its1.map It.xs) (jts1.map It.xs) xs1 xs2).1.1) := hk'.cell (by simp <;> omega) c16_o70_0
    clear c16_o70_0 ac16_o70_0
    have c17_o70_1 : w17.cell? ⟨w7.heap.size, 1, none⟩ = some (.slice A62 n63 c64) := hk'.cell (by simp <;> omega) c16_o70_1
    clear c16_o70_1 ac16_o70_1
    have c17_o70_2 : w17.cell? ⟨w7.heap.size, 2, none⟩ = some (.slice B65 m66 d67) := hk'.cell (by simp <;> omega) c16_o70_2
    clear c16_o70_2 ac16_o70_2
    have ac17_a0_0 := fun o => keepa o c17_a0_0
    have ac17_a0_1 := fun o => keepa o c17_a0_1
    have ac17_a0_2 := fun o => keepa o c17_a0_2
    have ac17_a1_0 := fun o => keepa o c17_a1_0
    have ac17_a1_1 := fun o => keepa o c17_a1_1
    have ac17_a1_2 := fun o => keepa o c17_a1_2
    have ac17_a1_3 := fun o => keepa o c17_a1_3
    have ac17_a1_4 := fun o => keepa o c17_a1_4
    have ac17_a1_5 := fun o => keepa o c17_a1_5
    have ac17_o52_0 := fun o => keepa o c17_o52_0
    have ac17_o52_1 := fun o => keepa o c17_o52_1
    have ac17_o52_2 := fun o => keepa o c17_o52_2
    have ac17_o54_0 := fun o => keepa o c17_o54_0
    have ac17_o54_1 := fun o => keepa o c17_o54_1
    have ac17_o54_2 := fun o => keepa o c17_o54_2
    have ac17_o60_0 := fun o => keepa o c17_o60_0
    have ac17_o60_1 := fun o => keepa o c17_o60_1
    have ac17_o60_2 := fun o => keepa o c17_o60_2
    have ac17_o60_3 := fun o => keepa o c17_o60_3
    have ac17_o60_4 := fun o => keepa o c17_o60_4
    have ac17_o60_5 := fun o => keepa o c17_o60_5
    have ac17_o70_0 := fun o => keepa o c17_o70_0
    have ac17_o70_1 := fun o => keepa o c17_o70_1
    have ac17_o70_2 := fun o => keepa o c17_o70_2
    have rP0 := P0.out.keep hk' (by omega); clear P0; have P0 := Lib.hid rP0; clear rP0
    have rP1 := P1.out.keep hk' (by omega); clear P1; have P1 := Lib.hid rP1; clear rP1
    have rP2 := P2.out.keep hk' (by omega); clear P2; have P2 := Lib.hid rP2; clear rP2
    have rFo52 := Fo52.out.keep hk' (by omega); clear Fo52; have Fo52 := Lib.hid rFo52; clear rFo52
    have rFo54 := Fo54.out.keep hk' (by omega); clear Fo54; have Fo54 := Lib.hid rFo54; clear rFo54
    have rFo60 := Fo60.out.keep hk' (by omega); clear Fo60; have Fo60 := Lib.hid rFo60; clear rFo60
    have rFo61 := q17; clear Fo61; have Fo61 := Lib.hid rFo61; clear rFo61 q17
    have rFo70 := Fo70.out.keep hk' (by omega); clear Fo70; have Fo70 := Lib.hid rFo70; clear rFo70
    have rFo79 := Fo79.out.keep hk' (by omega); clear Fo79; have Fo79 := Lib.hid rFo79; clear rFo79
    have rB := B.out.trans (hk'.below (B := w.heap.size) (by omega) (by omega)); clear B; have B := Lib.hid rB; clear rB
    clear hk hk'
    go_wp2_with fail
    refine (eqConfig_t _ _ _ _ _ _ _ _ _ _ _ _ _ _ _ _ (by exact (Fo70.out.rd)) (by exact (Fo52.out.rd)) (by omega) (by omega)).mono ?_
    rintro e w18 ⟨rfl, hb⟩
    have hb' : Below w17.heap.size w17 w18 := (by first | (with_reducible exact hb) | (with_reducible exact up1 hb) | (with_reducible exact up2 hb) | (with_reducible exact up3 hb) | (with_reducible exact up4 hb) | (with_reducible exact below_of_drew hb) | (with_reducible exact below_of_drew (up1 hb)))
    have z18 := hb'.size
    have c18_a0_0 : w18.cell? ⟨w.heap.size, 0, none⟩ = some (.int .i64 sy0) := keepc hb' c17_a0_0
    clear c17_a0_0 ac17_a0_0
    have c18_a0_1 : w18.cell? ⟨w.heap.size, 1, none⟩ = some (.int .i64 st0) := keepc hb' c17_a0_1
    clear c17_a0_1 ac17_a0_1
    have c18_a0_2 : w18.cell? ⟨w.heap.size, 2, none⟩ = some (.slice A0 n0 c0) := keepc hb' c17_a0_2
    clear c17_a0_2 ac17_a0_2
    have c18_a1_0 : w18.cell? ⟨(w.heap.size + 1), 0, none⟩ = some (.int .i64 st1) := keepc hb' c17_a1_0
    clear c17_a1_0 ac17_a1_0
    have c18_a1_1 : w18.cell? ⟨(w.heap.size + 1), 1, none⟩ = some (.int .i64 hd1) := keepc hb' c17_a1_1
    clear c17_a1_1 ac17_a1_1
    have c18_a1_2 : w18.cell? ⟨(w.heap.size + 1), 2, none⟩ = some (.int .i64 at1) := keepc hb' c17_a1_2
    clear c17_a1_2 ac17_a1_2
    have c18_a1_3 : w18.cell? ⟨(w.heap.size + 1), 3, none⟩ = some (.slice A1 n1 c1) := keepc hb' c17_a1_3
    clear c17_a1_3 ac17_a1_3
    have c18_a1_4 : w18.cell? ⟨(w.heap.size + 1), 4, none⟩ = some (.slice B1 m1 d1) := keepc hb' c17_a1_4
    clear c17_a1_4 ac17_a1_4
    have c18_a1_5 : w18.cell? ⟨(w.heap.size + 1), 5, none⟩ = some (.slice C1 k1 e1) := keepc hb' c17_a1_5
    clear c17_a1_5 ac17_a1_5
    have c18_o52_0 : w18.cell? ⟨g17, 0, none⟩ = some (.int .i64 (fatR sy0 st0 xs0 st1 hd1 at1 (its1.map It.xs) (jts1.map It.xs) xs1 xs2).1.1) := keepc hb' c17_o52_0
    clear c17_o52_0 ac17_o52_0
    have c18_o52_1 : w18.cell? ⟨g17, 1, none⟩ = some (.slice A11 n12 c13) := keepc hb' c17_o52_1
    clear c17_o52_1 ac17_o52_1
    have c18_o52_2 : w18.cell? ⟨g17, 2, none⟩ = some (.slice B14 m15 d16) := keepc hb' c17_o52_2
    clear c17_o52_2 ac17_o52_2
    have c18_o54_0 : w18.cell? ⟨w4.heap.size, 0, none⟩ = some (.int .i64 sy0) := keepc hb' c17_o54_0
    clear c17_o54_0 ac17_o54_0
    have c18_o54_1 : w18.cell? ⟨w4.heap.size, 1, none⟩ = some (.int .i64 st0) := keepc hb' c17_o54_1
    clear c17_o54_1 ac17_o54_1
    have c18_o54_2 : w18.cell? ⟨w4.heap.size, 2, none⟩ = some (.slice (some ⟨g053, 0, none⟩) n0 n0) := keepc hb' c17_o54_2
    clear c17_o54_2 ac17_o54_2
    have c18_o60_0 : w18.cell? ⟨w5.heap.size, 0, none⟩ = some (.int .i64 st1) := keepc hb' c17_o60_0
    clear c17_o60_0 ac17_o60_0
    have c18_o60_1 : w18.cell? ⟨w5.heap.size, 1, none⟩ = some (.int .i64 hd1) := keepc hb' c17_o60_1
    clear c17_o60_1 ac17_o60_1
    have c18_o60_2 : w18.cell? ⟨w5.heap.size, 2, none⟩ = some (.int .i64 at1) := keepc hb' c17_o60_2
    clear c17_o60_2 ac17_o60_2
    have c18_o60_3 : w18.cell? ⟨w5.heap.size, 3, none⟩ = some (.slice (some ⟨g055, 0, none⟩) n1 n1) := keepc hb' c17_o60_3
    clear c17_o60_3 ac17_o60_3
    have c18_o60_4 : w18.cell? ⟨w5.heap.size, 4, none⟩ = some (.slice (some ⟨g157, 0, none⟩) m1 m1) := keepc hb' c17_o60_4
    clear c17_o60_4 ac17_o60_4
    have c18_o60_5 : w18.cell? ⟨w5.heap.size, 5, none⟩ = some (.slice (some ⟨g259, 0, none⟩) k1 k1) := keepc hb' c17_o60_5
    clear c17_o60_5 ac17_o60_5
    have c18_o70_0 : w18.cell? ⟨w7.heap.size, 0, none⟩ = some (.int .i64 (fatR sy0 st0 xs0 st1 hd1 at1 (its1.map It.xs) (jts1.map It.xs) xs1 xs2).1.1) := keepc hb' c17_o70_0
    clear c17_o70_0 ac17_o70_0
    have c18_o70_1 : w18.cell? ⟨w7.heap.size, 1, none⟩ = some (.slice A62 n63 c64) := keepc hb' c17_o70_1
    clear c17_o70_1 ac17_o70_1
    have c18_o70_2 : w18.cell? ⟨w7.heap.size, 2, none⟩ = some (.slice B65 m66 d67) := keepc hb' c17_o70_2
    clear c17_o70_2 ac17_o70_2
    have ac18_a0_0 := fun o => keepa o c18_a0_0
    have ac18_a0_1 := fun o => keepa o c18_a0_1
    have ac18_a0_2 := fun o => keepa o c18_a0_2
    have ac18_a1_0 := fun o => keepa o c18_a1_0
    have ac18_a1_1 := fun o => keepa o c18_a1_1
    have ac18_a1_2 := fun o => keepa o c18_a1_2
    have ac18_a1_3 := fun o => keepa o c18_a1_3
    have ac18_a1_4 := fun o => keepa o c18_a1_4
    have ac18_a1_5 := fun o => keepa o c18_a1_5
    have ac18_o52_0 := fun o => keepa o c18_o52_0
    have ac18_o52_1 := fun o => keepa o c18_o52_1
    have ac18_o52_2 := fun o => keepa o c18_o52_2
    have ac18_o54_0 := fun o => keepa o c18_o54_0
    have ac18_o54_1 := fun o => keepa o c18_o54_1
    have ac18_o54_2 := fun o => keepa o c18_o54_2
    have ac18_o60_0 := fun o => keepa o c18_o60_0
    have ac18_o60_1 := fun o => keepa o c18_o60_1
    have ac18_o60_2 := fun o => keepa o c18_o60_2
    have ac18_o60_3 := fun o => keepa o c18_o60_3
    have ac18_o60_4 := fun o => keepa o c18_o60_4
    have ac18_o60_5 := fun o => keepa o c18_o60_5
    have ac18_o70_0 := fun o => keepa o c18_o70_0
    have ac18_o70_1 := fun o => keepa o c18_o70_1
    have ac18_o70_2 := fun o => keepa o c18_o70_2
    have rP0 := P0.out.below hb'; clear P0; have P0 := Lib.hid rP0; clear rP0
    have rP1 := P1.out.below hb'; clear P1; have P1 := Lib.hid rP1; clear rP1
    have rP2 := P2.out.below hb'; clear P2; have P2 := Lib.hid rP2; clear rP2
    have rFo52 := Fo52.out.below hb'; clear Fo52; have Fo52 := Lib.hid rFo52; clear rFo52
    have rFo54 := Fo54.out.below hb'; clear Fo54; have Fo54 := Lib.hid rFo54; clear rFo54
    have rFo60 := Fo60.out.below hb'; clear Fo60; have Fo60 := Lib.hid rFo60; clear rFo60
    have rFo61 := Fo61.out.below hb'; clear Fo61; have Fo61 := Lib.hid rFo61; clear rFo61
    have rFo70 := Fo70.out.below hb'; clear Fo70; have Fo70 := Lib.hid rFo70; clear rFo70
    have rFo79 := Fo79.out.below hb'; clear Fo79; have Fo79 := Lib.hid rFo79; clear rFo79
    have rB := below_chain B.out (by omega) hb'; clear B; have B := Lib.hid rB; clear rB
    clear hb hb'
    go_wp2_with fail
    refine (markConfig_c _ _ _ _ _ _ _ _ _ _ _ _ _ (by exact (Fo70.out)) (by omega) (by omega) (by first | omega | (simp; omega)) (by omega) (by omega)).mono ?_
    rintro e w19 ⟨rfl, q19, hk⟩
    have hk' : KeepR w6.heap.size w7.heap.size w18 w19 := (by first | (with_reducible exact hk) | (with_reducible exact hk.up1) | (with_reducible exact hk.up1.up1))
    have z19 := hk'.size
    have c19_a0_0 : w19.cell? ⟨w.heap.size, 0, none⟩ = some (.int .i64 sy0) := hk'.cell (by simp <;> omega) c18_a0_0
    clear c18_a0_0 ac18_a0_0
    have c19_a0_1 : w19.cell? ⟨w.heap.size, 1, none⟩ = some (.int .i64 st0) := hk'.cell (by simp <;> omega) c18_a0_1
    clear c18_a0_1 ac18_a0_1
    have c19_a0_2 : w19.cell? ⟨w.heap.size, 2, none⟩ = some (.slice A0 n0 c0) := hk'.cell (by simp <;> omega) c18_a0_2
    clear c18_a0_2 ac18_a0_2
    have c19_a1_0 : w19.cell? ⟨(w.heap.size + 1), 0, none⟩ = some (.int .i64 st1) := hk'.cell (by simp <;> omega) c18_a1_0
    clear c18_a1_0 ac18_a1_0
    have c19_a1_1 : w19.cell? ⟨(w.heap.size + 1), 1, none⟩ = some (.int .i64 hd1) := hk'.cell (by simp <;> omega) c18_a1_1
    clear c18_a1_1 ac18_a1_1
    have c19_a1_2 : w19.cell? ⟨(w.heap.size + 1), 2, none⟩ = some (.int .i64 at1) := hk'.cell (by simp <;> omega) c18_a1_2
    clear c18_a1_2 ac18_a1_2
    have c19_a1_3 : w19.cell? ⟨(w.heap.size + 1), 3, none⟩ = some (.slice A1 n1 c1) := hk'.cell (by simp <;> omega) c18_a1_3
    clear c18_a1_3 ac18_a1_3
    have c19_a1_4 : w19.cell? ⟨(w.heap.size + 1), 4, none⟩ = some (.slice B1 m1 d1) := hk'.cell (by simp <;> omega) c18_a1_4
    clear c18_a1_4 ac18_a1_4
    have c19_a1_5 : w19.cell? ⟨(w.heap.size + 1), 5, none⟩ = some (.slice C1 k1 e1) := hk'.cell (by simp <;> omega) c18_a1_5
    clear c18_a1_5 ac18_a1_5
    have c19_o52_0 : w19.cell? ⟨g17, 0, none⟩ = some (.int .i64 (fatR sy0 st0 xs0 st1 hd1 at1 (its1.map It.xs) (jts1.map It.xs) xs1 xs2).1.1) := hk'.cell (by simp <;> omega) c18_o52_0
    clear c18_o52_0 ac18_o52_0
    have c19_o52_1 : w19.cell? ⟨g17, 1, none⟩ = some (.slice A11 n12 c13) := hk'.cell (by simp <;> omega) c18_o52_1
    clear c18_o52_1 ac18_o52_1
    have c19_o52_2 : w19.cell? ⟨g17, 2, none⟩ = some (.slice B14 m15 d16) := hk'.cell (by simp <;> omega) c18_o52_2
    clear c18_o52_2 ac18_o52_2
    have c19_o54_0 : w19.cell? ⟨w4.heap.size, 0, none⟩ = some (.int .i64 sy0) := hk'.cell (by simp <;> omega) c18_o54_0
    clear c18_o54_0 ac18_o54_0
    have c19_o54_1 : w19.cell? ⟨w4.heap.size, 1, none⟩ = some (.int .i64 st0) := hk'.cell (by simp <;> omega) c18_o54_1
    clear c18_o54_1 ac18_o54_1
    have c19_o54_2 : w19.cell? ⟨w4.heap.size, 2, none⟩ = some (.slice (some ⟨g053, 0, none⟩) n0 n0) := hk'.cell (by simp <;> omega) c18_o54_2
    clear c18_o54_2 ac18_o54_2
    have c19_o60_0 : w19.cell? ⟨w5.heap.size, 0, none⟩ = some (.int .i64 st1) := hk'.cell (by simp <;> omega) c18_o60_0
    clear c18_o60_0 ac18_o60_0
    have c19_o60_1 : w19.cell? ⟨w5.heap.size, 1, none⟩ = some (.int .i64 hd1) := hk'.cell (by simp <;> omega) c18_o60_1
    clear c18_o60_1 ac18_o60_1
    have c19_o60_2 : w19.cell? ⟨w5.heap.size, 2, none⟩ = some (.int .i64 at1) := hk'.cell (by simp <;> omega) c18_o60_2
    clear c18_o60_2 ac18_o60_2
    have c19_o60_3 : w19.cell? ⟨w5.heap.size, 3, none⟩ = some (.slice (some ⟨g055, 0, none⟩) n1 n1) := hk'.cell (by simp <;> omega) c18_o60_3
    clear c18_o60_3 ac18_o60_3
    have c19_o60_4 : w19.cell? ⟨w5.heap.size, 4, none⟩ = some (.slice (some ⟨g157, 0, none⟩) m1 m1) := hk'.cell (by simp <;> omega) c18_o60_4
    clear c18_o60_4 ac18_o60_4
    have c19_o60_5 : w19.cell? ⟨w5.heap.size, 5, none⟩ = some (.slice (some ⟨g259, 0, none⟩) k1 k1) := hk'.cell (by simp <;> omega) c18_o60_5
    clear c18_o60_5 ac18_o60_5
    have c19_o70_0 : w19.cell? ⟨w7.heap.size, 0, none⟩ = some (.int .i64 (fatR sy0 st0 xs0 st1 hd1 at1 (its1.map It.xs) (jts1.map It.xs) xs1 xs2).1.1) := hk'.cell (by simp <;> omega) c18_o70_0
    clear c18_o70_0 ac18_o70_0
    have c19_o70_1 : w19.cell? ⟨w7.heap.size, 1, none⟩ = some (.slice A62 n63 c64) := hk'.cell (by simp <;> omega) c18_o70_1
    clear c18_o70_1 ac18_o70_1
    have c19_o70_2 : w19.cell? ⟨w7.heap.size, 2, none⟩ = some (.slice B65 m66 d67) := hk'.cell (by simp <;> omega) c18_o70_2
    clear c18_o70_2 ac18_o70_2
    have ac19_a0_0 := fun o => keepa o c19_a0_0
    have ac19_a0_1 := fun o => keepa o c19_a0_1
    have ac19_a0_2 := fun o => keepa o c19_a0_2
    have ac19_a1_0 := fun o => keepa o c19_a1_0
    have ac19_a1_1 := fun o => keepa o c19_a1_1
    have ac19_a1_2 := fun o => keepa o c19_a1_2
    have ac19_a1_3 := fun o => keepa o c19_a1_3
    have ac19_a1_4 := fun o => keepa o c19_a1_4
    have ac19_a1_5 := fun o => keepa o c19_a1_5
    have ac19_o52_0 := fun o => keepa o c19_o52_0
    have ac19_o52_1 := fun o => keepa o c19_o52_1
    have ac19_o52_2 := fun o => keepa o c19_o52_2
    have ac19_o54_0 := fun o => keepa o c19_o54_0
    have ac19_o54_1 := fun o => keepa o c19_o54_1
    have ac19_o54_2 := fun o => keepa o c19_o54_2
    have ac19_o60_0 := fun o => keepa o c19_o60_0
    have ac19_o60_1 := fun o => keepa o c19_o60_1
    have ac19_o60_2 := fun o => keepa o c19_o60_2
    have ac19_o60_3 := fun o => keepa o c19_o60_3
    have ac19_o60_4 := fun o => keepa o c19_o60_4
    have ac19_o60_5 := fun o => keepa o c19_o60_5
    have ac19_o70_0 := fun o => keepa o c19_o70_0
    have ac19_o70_1 := fun o => keepa o c19_o70_1
    have ac19_o70_2 := fun o => keepa o c19_o70_2
    have rP0 := P0.out.keep hk' (by omega); clear P0; have P0 := Lib.hid rP0; clear rP0
    have rP1 := P1.out.keep hk' (by omega); clear P1; have P1 := Lib.hid rP1; clear rP1
    have rP2 := P2.out.keep hk' (by omega); clear P2; have P2 := Lib.hid rP2; clear rP2
    have rFo52 := Fo52.out.keep hk' (by omega); clear Fo52; have Fo52 := Lib.hid rFo52; clear rFo52
    have rFo54 := Fo54.out.keep hk' (by omega); clear Fo54; have Fo54 := Lib.hid rFo54; clear rFo54
    have rFo60 := Fo60.out.keep hk' (by omega); clear Fo60; have Fo60 := Lib.hid rFo60; clear rFo60
    have rFo61 := Fo61.out.keep hk' (by omega); clear Fo61; have Fo61 := Lib.hid rFo61; clear rFo61
    have rFo70 := q19; clear Fo70; have Fo70 := Lib.hid rFo70; clear rFo70 q19
    have rFo79 := Fo79.out.keep hk' (by omega); clear Fo79; have Fo79 := Lib.hid rFo79; clear rFo79
    have rB := B.out.trans (hk'.below (B := w.heap.size) (by omega) (by omega)); clear B; have B := Lib.hid rB; clear rB
    clear hk hk'
    go_wp2_with fail
    refine (heldConfig_c _ _ _ _ _ _ _ _ _ _ _ (by exact (Fo70.out.rd)) (by omega) (by omega) (by omega) (by omega)).mono ?_
    rintro e w20 ⟨rfl, hb⟩
    have hb' : Below w19.heap.size w19 w20 := (by first | (with_reducible exact hb) | (with_reducible exact up1 hb) | (with_reducible exact up2 hb) | (with_reducible exact up3 hb) | (with_reducible exact up4 hb) | (with_reducible exact below_of_drew hb) | (with_reducible exact below_of_drew (up1 hb)))
    have z20 := hb'.size
    have c20_a0_0 : w20.cell? ⟨w.heap.size, 0, none⟩ = some (.int .i64 sy0) := keepc hb' c19_a0_0
    clear c19_a0_0 ac19_a0_0
    have c20_a0_1 : w20.cell? ⟨w.heap.size, 1, none⟩ = some (.int .i64 st0) := keepc hb' c19_a0_1
    clear c19_a0_1 ac19_a0_1
    have c20_a0_2 : w20.cell? ⟨w.heap.size, 2, none⟩ = some (.slice A0 n0 c0) := keepc hb' c19_a0_2
    clear c19_a0_2 ac19_a0_2
    have c20_a1_0 : w20.cell? ⟨(w.heap.size + 1), 0, none⟩ = some (.int .i64 st1) := keepc hb' c19_a1_0
    clear c19_a1_0 ac19_a1_0
    have c20_a1_1 : w20.cell? ⟨(w.heap.size + 1), 1, none⟩ = some (.int .i64 hd1) := keepc hb' c19_a1_1
    clear c19_a1_1 ac19_a1_1
    have c20_a1_2 : w20.cell? ⟨(w.heap.size + 1), 2, none⟩ = some (.int .i64 at1) := keepc hb' c19_a1_2
    clear c19_a1_2 ac19_a1_2
    have c20_a1_3 : w20.cell? ⟨(w.heap.size + 1), 3, none⟩ = some (.slice A1 n1 c1) := keepc hb' c19_a1_3
    clear c19_a1_3 ac19_a1_3
    have c20_a1_4 : w20.cell? ⟨(w.heap.size + 1), 4, none⟩ = some (.slice B1 m1 d1) := keepc hb' c19_a1_4
    clear c19_a1_4 ac19_a1_4
    have c20_a1_5 : w20.cell? ⟨(w.heap.size + 1), 5, none⟩ = some (.slice C1 k1 e1) := keepc hb' c19_a1_5
    clear c19_a1_5 ac19_a1_5
    have c20_o52_0 : w20.cell? ⟨g17, 0, none⟩ = some (.int .i64 (fatR sy0 st0 xs0 st1 hd1 at1 (its1.map It.xs) (jts1.map It.xs) xs1 xs2).1.1) := keepc hb' c19_o52_0
    clear c19_o52_0 ac19_o52_0
    have c20_o52_1 : w20.cell? ⟨g17, 1, none⟩ = some (.slice A11 n12 c13) := keepc hb' c19_o52_1
    clear c19_o52_1 ac19_o52_1
    have c20_o52_2 : w20.cell? ⟨g17, 2, none⟩ = some (.slice B14 m15 d16) := keepc hb' c19_o52_2
    clear c19_o52_2 ac19_o52_2
    have c20_o54_0 : w20.cell? ⟨w4.heap.size, 0, none⟩ = some (.int .i64 sy0) := keepc hb' c19_o54_0
    clear c19_o54_0 ac19_o54_0
    have c20_o54_1 : w20.cell? ⟨w4.heap.size, 1, none⟩ = some (.int .i64 st0) := keepc hb' c19_o54_1
    clear c19_o54_1 ac19_o54_1
    have c20_o54_2 : w20.cell? ⟨w4.heap.size, 2, none⟩ = some (.slice (some ⟨g053, 0, none⟩) n0 n0) := keepc hb' c19_o54_2
    clear c19_o54_2 ac19_o54_2
    have c20_o60_0 : w20.cell? ⟨w5.heap.size, 0, none⟩ = some (.int .i64 st1) := keepc hb' c19_o60_0
    clear c19_o60_0 ac19_o60_0
    have c20_o60_1 : w20.cell? ⟨w5.heap.size, 1, none⟩ = some (.int .i64 hd1) := keepc hb' c19_o60_1
    clear c19_o60_1 ac19_o60_1
    have c20_o60_2 : w20.cell? ⟨w5.heap.size, 2, none⟩ = some (.int .i64 at1) := keepc hb' c19_o60_2
    clear c19_o60_2 ac19_o60_2
    have c20_o60_3 : w20.cell? ⟨w5.heap.size, 3, none⟩ = some (.slice (some ⟨g055, 0, none⟩) n1 n1) := keepc hb' c19_o60_3
    clear c19_o60_3 ac19_o60_3
    have c20_o60_4 : w20.cell? ⟨w5.heap.size, 4, none⟩ = some (.slice (some ⟨g157, 0, none⟩) m1 m1) := keepc hb' c19_o60_4
    clear c19_o60_4 ac19_o60_4
    have c20_o60_5 : w20.cell? ⟨w5.heap.size, 5, none⟩ = some (.slice (some ⟨g259, 0, none⟩) k1 k1) := keepc hb' c19_o60_5
    clear c19_o60_5 ac19_o60_5
    have c20_o70_0 : w20.cell? ⟨w7.heap.size, 0, none⟩ = some (.int .i64 (fatR sy0 st0 xs0 st1 hd1 at1 (its1.map It.xs) (jts1.map It.xs) xs1 xs2).1.1) := keepc hb' c19_o70_0
    clear c19_o70_0 ac19_o70_0
    have c20_o70_1 : w20.cell? ⟨w7.heap.size, 1, none⟩ = some (.slice A62 n63 c64) := keepc hb' c19_o70_1
    clear c19_o70_1 ac19_o70_1
    have c20_o70_2 : w20.cell? ⟨w7.heap.size, 2, none⟩ = some (.slice B65 m66 d67) := keepc hb' c19_o70_2
    clear c19_o70_2 ac19_o70_2
    have ac20_a0_0 := fun o => keepa o c20_a0_0
    have ac20_a0_1 := fun o => keepa o c20_a0_1
    have ac20_a0_2 := fun o => keepa o c20_a0_2
    have ac20_a1_0 := fun o => keepa o c20_a1_0
    have ac20_a1_1 := fun o => keepa o c20_a1_1
    have ac20_a1_2 := fun o => keepa o c20_a1_2
    have ac20_a1_3 := fun o => keepa o c20_a1_3
    have ac20_a1_4 := fun o => keepa o c20_a1_4
    have ac20_a1_5 := fun o => keepa o c20_a1_5
    have ac20_o52_0 := fun o => keepa o c20_o52_0
    have ac20_o52_1 := fun o => keepa o c20_o52_1
    have ac20_o52_2 := fun o => keepa o c20_o52_2
    have ac20_o54_0 := fun o => keepa o c20_o54_0
    have ac20_o54_1 := fun o => keepa o c20_o54_1
    have ac20_o54_2 := fun o => keepa o c20_o54_2
    have ac20_o60_0 := fun o => keepa o c20_o60_0
    have ac20_o60_1 := fun o => keepa o c20_o60_1
    have ac20_o60_2 := fun o => keepa o c20_o60_2
    have ac20_o60_3 := fun o => keepa o c20_o60_3
    have ac20_o60_4 := fun o => keepa o c20_o60_4
    have ac20_o60_5 := fun o => keepa o c20_o60_5
    have ac20_o70_0 := fun o => keepa o c20_o70_0
    have ac20_o70_1 := fun o => keepa o c20_o70_1
    have ac20_o70_2 := fun o => keepa o c20_o70_2
    have rP0 := P0.out.below hb'; clear P0; have P0 := Lib.hid rP0; clear rP0
    have rP1 := P1.out.below hb'; clear P1; have P1 := Lib.hid rP1; clear rP1
    have rP2 := P2.out.below hb'; clear P2; have P2 := Lib.hid rP2; clear rP2
    have rFo52 := Fo52.out.below hb'; clear Fo52; have Fo52 := Lib.hid rFo52; clear rFo52
    have rFo54 := Fo54.out.below hb'; clear Fo54; have Fo54 := Lib.hid rFo54; clear rFo54
    have rFo60 := Fo60.out.below hb'; clear Fo60; have Fo60 := Lib.hid rFo60; clear rFo60
    have rFo61 := Fo61.out.below hb'; clear Fo61; have Fo61 := Lib.hid rFo61; clear rFo61
    have rFo70 := Fo70.out.below hb'; clear Fo70; have Fo70 := Lib.hid rFo70; clear rFo70
    have rFo79 := Fo79.out.below hb'; clear Fo79; have Fo79 := Lib.hid rFo79; clear rFo79
    have rB := below_chain B.out (by omega) hb'; clear B; have B := Lib.hid rB; clear rB
    clear hb hb'
    go_wp2_with fail
    go_cut [18, 19] (fun v0 v1 wx => ∃ (g86 : Nat) (A80 : Option Addr) (n81 : Nat) (c82 : Nat) (B83 : Option Addr) (m84 : Nat) (d85 : Nat), v0 = .pointer (some ⟨g86, 0, none⟩) ∧ v1 = .int .i64 (fatR sy0 st0 xs0 st1 hd1 at1 (its1.map It.xs) (jts1.map It.xs) xs1 xs2).2 ∧ wx.cell? ⟨g86, 0, none⟩ = some (.int .i64 (fatR sy0 st0 xs0 st1 hd1 at1 (its1.map It.xs) (jts1.map It.xs) xs1 xs2).1.1) ∧ wx.cell? ⟨g86, 1, none⟩ = some (.slice A80 n81 c82) ∧ wx.cell? ⟨g86, 2, none⟩ = some (.slice B83 m84 d85) ∧ WrS wx w20.heap.size wx.heap.size ([sgI A80 n81 ((fatR sy0 st0 xs0 st1 hd1 at1 (its1.map It.xs) (jts1.map It.xs) xs1 xs2).1.2).1] ++ [sgI B83 m84 ((fatR sy0 st0 xs0 st1 hd1 at1 (its1.map It.xs) (jts1.map It.xs) xs1 xs2).1.2).2]) ∧ (n81 ≤ 1000000 ∧ m84 ≤ 1000000) ∧ w20.heap.size ≤ g86 ∧ Below w20.heap.size w20 wx)
    case first =>
      have fx_c20_a0_0 := Ext.cell c20_a0_0
      have fx_c20_a0_1 := Ext.cell c20_a0_1
      have fx_c20_a0_2 := Ext.cell c20_a0_2
      have fx_c20_a1_0 := Ext.cell c20_a1_0
      have fx_c20_a1_1 := Ext.cell c20_a1_1
      have fx_c20_a1_2 := Ext.cell c20_a1_2
      have fx_c20_a1_3 := Ext.cell c20_a1_3
      have fx_c20_a1_4 := Ext.cell c20_a1_4
      have fx_c20_a1_5 := Ext.cell c20_a1_5
      have fx_c20_o52_0 := Ext.cell c20_o52_0
      have fx_c20_o52_1 := Ext.cell c20_o52_1
      have fx_c20_o52_2 := Ext.cell c20_o52_2
      have fx_c20_o54_0 := Ext.cell c20_o54_0
      have fx_c20_o54_1 := Ext.cell c20_o54_1
      have fx_c20_o54_2 := Ext.cell c20_o54_2
      have fx_c20_o60_0 := Ext.cell c20_o60_0
      have fx_c20_o60_1 := Ext.cell c20_o60_1
      have fx_c20_o60_2 := Ext.cell c20_o60_2
      have fx_c20_o60_3 := Ext.cell c20_o60_3
      have fx_c20_o60_4 := Ext.cell c20_o60_4
      have fx_c20_o60_5 := Ext.cell c20_o60_5
      have fx_c20_o70_0 := Ext.cell c20_o70_0
      have fx_c20_o70_1 := Ext.cell c20_o70_1
      have fx_c20_o70_2 := Ext.cell c20_o70_2
      refine Mix.wp_region_mixF 10 [3, 1, 3, 1, 0, 1, 1, 0, 0, 0, 1, 2, 0] (fun w' => ∃ x : Ext w20, w' = x.w) (by kernel_rfl) (by kernel_rfl) (InExt.drew _) _ _ (by rfl) ?_
      simp only [List.take_succ_cons, List.take_zero, List.drop_succ_cons, List.drop_zero]
      have e0 : Below w20.heap.size w20 w20.drew := InExt.out (InExt.drew _)
      refine Mix.wpF_3 ?_
      (refine Mix.wpMix_read (by rfl) ?_; go_big_quiet_step (fail); refine wpQuiet_nil ?_)
      refine Mix.wpMix_nil ?_
      refine Mix.wpF_1 ?_ ?_
      · simp only [List.cons_append, List.nil_append]
        have e0p := e0
        refine Mix.wpMix_chg (by rfl) (fun K hK => ?_)
        go_wp2_with fail
        refine hK _ _ ⟨⟨_, e0.alloc e0.size _⟩, rfl⟩ ?_
        clear hK K
        have bk : Blk (w20.drew.alloc (.cells #[.int .i64 0, .slice none 0 0, .slice none 0 0] 59)) w20.heap.size 59 #[.int .i64 0, .slice none 0 0, .slice none 0 0] := Blk.new _ _ _
        have e0 := e0.alloc e0.size (.cells #[.int .i64 0, .slice none 0 0, .slice none 0 0] 59)
        refine Mix.wpMix_chg (by rfl) (fun K hK => ?_)
        go_wp2_with fail
        refine (toMachine_c _ _ _ _ _ _ _ (by exact ((P0.out.rd).below e0)) (by omega)).mono ?_
        rintro e ua11 ⟨g089, rfl, q90, hb⟩
        try simp only [World.size_alloc] at q90
        have e0 := below_chain e0 e0.size hb
        have bk := bk.keep hb
        have e_q90 : Below ua11.heap.size ua11 ua11 := below_size
        have zua11 : w20.heap.size + 1 ≤ ua11.heap.size := by first | exact hb.size | exact Nat.le_trans (Nat.le_of_eq (World.size_alloc ..).symm) hb.size
        clear hb
        go_wp2_with fail
        refine hK _ _ ⟨⟨_, e0⟩, rfl⟩ ?_
        clear hK K
        (refine Mix.wpMix_read (by rfl) ?_; go_big_quiet_step (fail); refine wpQuiet_nil ?_)
        refine Mix.wpMix_chg (by rfl) (fun K hK => ?_)
        go_wp2_with fail
        refine (toFormula_c _ _ _ _ _ _ _ _ _ _ _ _ _ _ _ _ (by exact ((P1.out.rd).below e0)) (by omega) (by omega) (by omega) hI0_a1 hI1_a1).mono ?_
        rintro e ua13 ⟨g091, js092, g193, js194, g295, rfl, hx97, hx98, q96, hb⟩
        try simp only [World.size_alloc] at q96
        have hI_hx97 : ∀ t ∈ js092, t.n ≤ 1000000000 := hi_of ((((P1.out.rd).below e0)).left.left) (((q96).rd).left.left) hx97 hI0_a1
        have hx97h := Lib.hid hx97; clear hx97
        have hI_hx98 : ∀ t ∈ js194, t.n ≤ 1000000000 := hi_of ((((P1.out.rd).below e0)).left.right) (((q96).rd).left.right) hx98 hI1_a1
        have hx98h := Lib.hid hx98; clear hx98
        have e_q90 := below_chain e_q90 e_q90.size hb
        have e0 := below_chain e0 e0.size hb
        have bk := bk.keep hb
        have e_q96 : Below ua13.heap.size ua13 ua13 := below_size
        have zua13 : ua11.heap.size ≤ ua13.heap.size := by first | exact hb.size | exact Nat.le_trans (Nat.le_of_eq (World.size_alloc ..).symm) hb.size
        clear hb
        go_wp2_with fail
        refine hK _ _ ⟨⟨_, e0⟩, rfl⟩ ?_
        clear hK K
        (refine Mix.wpMix_pure (by rfl) ?_; go_big_quiet_step (fail); refine wpQuiet_nil ?_)
        refine Mix.wpMix_chg (by rfl) (fun K hK => ?_)
        go_wp2_with fail
        refine (toInt64S_c _ _ _ _ _ (by exact ((P2.out.1).below e0)) (by omega)).mono ?_
        rintro e ua15 ⟨rfl, q99, hb⟩
        try simp only [World.size_alloc] at q99
        have e_q90 := below_chain e_q90 e_q90.size hb
        have e_q96 := below_chain e_q96 e_q96.size hb
        have e0 := below_chain e0 e0.size hb
        have bk := bk.keep hb
        have e_q99 : Below ua15.heap.size ua15 ua15 := below_size
        have zua15 : ua13.heap.size ≤ ua15.heap.size := by first | exact hb.size | exact Nat.le_trans (Nat.le_of_eq (World.size_alloc ..).symm) hb.size
        clear hb
        go_wp2_with fail
        refine hK _ _ ⟨⟨_, e0⟩, rfl⟩ ?_
        clear hK K
        refine Mix.wpMix_chg (by rfl) (fun K hK => ?_)
        go_wp2_with fail
        refine (iFormulaAt_c _ _ _ _ _ _ _ _ _ _ _ _ _ _ _ _ _ _ _ _ _ _ _ _ _ _ (by exact (q90.below e_q90).rd) (by exact (q96.below e_q96).rd) (by exact (q99.below e_q99).rdI) (by omega) (by omega) (by omega) (by omega) (by omega) hI_hx97 hI_hx98 hx97h.out hx98h.out).mono ?_
        rintro e ua16 ⟨A80, n81, c82, B83, m84, d85, rfl, q87, l88, hb⟩
        have e_q90 := below_chain e_q90 e_q90.size hb
        have e_q96 := below_chain e_q96 e_q96.size hb
        have e_q99 := below_chain e_q99 e_q99.size hb
        have e0 := below_chain e0 e0.size hb
        have bk := bk.keep hb
        have e_q87 : Below ua16.heap.size ua16 ua16 := below_size
        have zua16 : ua15.heap.size ≤ ua16.heap.size := by first | exact hb.size | exact Nat.le_trans (Nat.le_of_eq (World.size_alloc ..).symm) hb.size
        have q87 : WrS ua16 (ua15.heap.size) ua16.heap.size ([sgI A80 n81 ((fatR sy0 st0 xs0 st1 hd1 at1 (its1.map It.xs) (jts1.map It.xs) xs1 xs2).1.2).1] ++ [sgI B83 m84 ((fatR sy0 st0 xs0 st1 hd1 at1 (its1.map It.xs) (jts1.map It.xs) xs1 xs2).1.2).2]) := by first | exact q87.wider (Nat.le_refl _) (Nat.le_refl _) | exact q87.wider (Nat.le_of_eq (World.size_alloc ..).symm) (Nat.le_refl _)
        clear hb
        go_wp2_with fail
        refine hK _ _ ⟨⟨_, e0⟩, rfl⟩ ?_
        clear hK K
        (refine Mix.wpMix_pure (by rfl) ?_; go_big_quiet_step (fail); refine wpQuiet_nil ?_)
        (refine Mix.wpMix_pure (by rfl) ?_; go_big_quiet_step (fail); refine wpQuiet_nil ?_)
        (refine Mix.wpMix_pure (by rfl) ?_; go_big_quiet_step (fail); refine wpQuiet_nil ?_)
        repeat (first | (refine Mix.wpMix_read (by rfl) ?_; go_big_quiet_step (fail); refine wpQuiet_nil ?_) | (refine Mix.wpMix_pure (by rfl) ?_; go_big_quiet_step (fail); refine wpQuiet_nil ?_))
        have d0 := bk.cell 0; have f0 := bk.frozen 0
        simp at d0
        have d1 := bk.cell 1; have f1 := bk.frozen 1
        simp at d1
        have d2 := bk.cell 2; have f2 := bk.frozen 2
        simp at d2
        refine Mix.wpMix_tail (by rfl) (fun K hK => ?_)
        go_wp2_with fail
        refine hK _ _ ?_
        clear hK K
        repeat (first | (refine Mix.wpMix_read (by rfl) ?_; go_big_quiet_step (fail); refine wpQuiet_nil ?_) | (refine Mix.wpMix_pure (by rfl) ?_; go_big_quiet_step (fail); refine wpQuiet_nil ?_))
        (refine Mix.wpMix_nil ?_; try simp only [Exit.then])
        go_wp2_with fail
        go_meet
        have bk2 := (((bk.set_ 0 (.int .i64 (fatR sy0 st0 xs0 st1 hd1 at1 (its1.map It.xs) (jts1.map It.xs) xs1 xs2).1.1)).set_ 1 (.slice A80 n81 c82)).set_ 2 (.slice B83 m84 d85))
        refine ⟨w20.heap.size, A80, n81, c82, B83, m84, d85, rfl, rfl, (by have := bk2.cell 0; first | exact this | (simp; done) | simpa using this), (by have := bk2.cell 1; first | exact this | (simp; done) | simpa using this), (by have := bk2.cell 2; first | exact this | (simp; done) | simpa using this), ?_, l88, ?_, ?_⟩
        · first | exact (q87.alloc _).wider (by first | omega | exact Nat.le_refl _ | (simp; done) | (simp; omega)) (by first | omega | exact Nat.le_refl _ | (simp; done) | (simp; omega)) | exact (((q87.set_far (.inl (by first | omega | exact Nat.le_refl _ | (simp; done) | (simp; omega))) _).set_far (.inl (by first | omega | exact Nat.le_refl _ | (simp; done) | (simp; omega))) _).set_far (.inl (by first | omega | exact Nat.le_refl _ | (simp; done) | (simp; omega))) _).wider (by first | omega | exact Nat.le_refl _ | (simp; done) | (simp; omega)) (by first | omega | exact Nat.le_refl _ | (simp; done) | (simp; omega))
        · exact (by first | omega | exact Nat.le_refl _ | (simp; done) | (simp; omega))
        · first | exact (by have hzz := (e0).size; repeat' (first | (with_reducible exact e0) | (with_reducible refine Below.alloc ?_ ?_ _) | (with_reducible refine Below.setCell ?_ ?_ _) | (with_reducible refine below_drew ?_) | omega | (simp; done) | (simp; omega))) | exact (by have hzz := (e0p).size; repeat' (first | (with_reducible exact e0p) | (with_reducible refine Below.alloc ?_ ?_ _) | (with_reducible refine Below.setCell ?_ ?_ _) | (with_reducible refine below_drew ?_) | omega | (simp; done) | (simp; omega)))
      refine Mix.wpMix_chg (by rfl) (fun K hK => ?_)
      go_wp2_with fail
      refine (toMachine_c _ _ _ _ _ _ _ (by exact ((P0.out.rd).below e0)) (by omega)).mono ?_
      rintro e u1 ⟨g0100, rfl, q101, hb⟩
      try simp only [World.size_alloc] at q101
      have e0 := below_chain e0 e0.size hb
      have e_q101 : Below u1.heap.size u1 u1 := below_size
      have zu1 : w20.heap.size ≤ u1.heap.size := by first | exact hb.size | exact Nat.le_trans (Nat.le_of_eq (World.size_alloc ..).symm) hb.size
      clear hb
      go_wp2_with fail
      refine hK _ _ ⟨⟨_, e0⟩, rfl⟩ ?_
      clear hK K
      refine Mix.wpMix_nil ?_
      refine Mix.wpF_3 ?_
      (refine Mix.wpMix_read (by rfl) ?_; go_big_quiet_step (fail); refine wpQuiet_nil ?_)
      refine Mix.wpMix_nil ?_
      refine Mix.wpF_1 ?_ ?_
      · simp only [List.cons_append, List.nil_append]
        have e0p := e0
        refine Mix.wpMix_chg (by rfl) (fun K hK => ?_)
        go_wp2_with fail
        refine hK _ _ ⟨⟨_, e0.alloc e0.size _⟩, rfl⟩ ?_
        clear hK K
        have e_q101 := e_q101.alloc e_q101.size (.cells #[.int .i64 0, .slice none 0 0, .slice none 0 0] 59)
        have bk : Blk (u1.alloc (.cells #[.int .i64 0, .slice none 0 0, .slice none 0 0] 59)) u1.heap.size 59 #[.int .i64 0, .slice none 0 0, .slice none 0 0] := Blk.new _ _ _
        have e0 := e0.alloc e0.size (.cells #[.int .i64 0, .slice none 0 0, .slice none 0 0] 59)
        refine Mix.wpMix_chg (by rfl) (fun K hK => ?_)
        go_wp2_with fail
        refine (toFormula_c _ _ _ _ _ _ _ _ _ _ _ _ _ _ _ _ (by exact ((P1.out.rd).below e0)) (by omega) (by omega) (by omega) hI0_a1 hI1_a1).mono ?_
        rintro e ua33 ⟨g0102, js0103, g1104, js1105, g2106, rfl, hx108, hx109, q107, hb⟩
        try simp only [World.size_alloc] at q107
        have hI_hx108 : ∀ t ∈ js0103, t.n ≤ 1000000000 := hi_of ((((P1.out.rd).below e0)).left.left) (((q107).rd).left.left) hx108 hI0_a1
        have hx108h := Lib.hid hx108; clear hx108
        have hI_hx109 : ∀ t ∈ js1105, t.n ≤ 1000000000 := hi_of ((((P1.out.rd).below e0)).left.right) (((q107).rd).left.right) hx109 hI1_a1
        have hx109h := Lib.hid hx109; clear hx109
        have e_q101 := below_chain e_q101 e_q101.size hb
        have e0 := below_chain e0 e0.size hb
        have bk := bk.keep hb
        have e_q107 : Below ua33.heap.size ua33 ua33 := below_size
        have zua33 : u1.heap.size + 1 ≤ ua33.heap.size := by first | exact hb.size | exact Nat.le_trans (Nat.le_of_eq (World.size_alloc ..).symm) hb.size
        clear hb
        go_wp2_with fail
        refine hK _ _ ⟨⟨_, e0⟩, rfl⟩ ?_
        clear hK K
        (refine Mix.wpMix_pure (by rfl) ?_; go_big_quiet_step (fail); refine wpQuiet_nil ?_)
        refine Mix.wpMix_chg (by rfl) (fun K hK => ?_)
        go_wp2_with fail
        refine (toInt64S_c _ _ _ _ _ (by exact ((P2.out.1).below e0)) (by omega)).mono ?_
        rintro e ua35 ⟨rfl, q110, hb⟩
        try simp only [World.size_alloc] at q110
        have e_q101 := below_chain e_q101 e_q101.size hb
        have e_q107 := below_chain e_q107 e_q107.size hb
        have e0 := below_chain e0 e0.size hb
        have bk := bk.keep hb
        have e_q110 : Below ua35.heap.size ua35 ua35 := below_size
        have zua35 : ua33.heap.size ≤ ua35.heap.size := by first | exact hb.size | exact Nat.le_trans (Nat.le_of_eq (World.size_alloc ..).symm) hb.size
        clear hb
        go_wp2_with fail
        refine hK _ _ ⟨⟨_, e0⟩, rfl⟩ ?_
        clear hK K
        refine Mix.wpMix_chg (by rfl) (fun K hK => ?_)
        go_wp2_with fail
        refine (iFormulaAt_c _ _ _ _ _ _ _ _ _ _ _ _ _ _ _ _ _ _ _ _ _ _ _ _ _ _ (by exact (q101.below e_q101).rd) (by exact (q107.below e_q107).rd) (by exact (q110.below e_q110).rdI) (by omega) (by omega) (by omega) (by omega) (by omega) hI_hx108 hI_hx109 hx108h.out hx109h.out).mono ?_
        rintro e ua36 ⟨A80, n81, c82, B83, m84, d85, rfl, q87, l88, hb⟩
        have e_q101 := below_chain e_q101 e_q101.size hb
        have e_q107 := below_chain e_q107 e_q107.size hb
        have e_q110 := below_chain e_q110 e_q110.size hb
        have e0 := below_chain e0 e0.size hb
        have bk := bk.keep hb
        have e_q87 : Below ua36.heap.size ua36 ua36 := below_size
        have zua36 : ua35.heap.size ≤ ua36.heap.size := by first | exact hb.size | exact Nat.le_trans (Nat.le_of_eq (World.size_alloc ..).symm) hb.size
        have q87 : WrS ua36 (ua35.heap.size) ua36.heap.size ([sgI A80 n81 ((fatR sy0 st0 xs0 st1 hd1 at1 (its1.map It.xs) (jts1.map It.xs) xs1 xs2).1.2).1] ++ [sgI B83 m84 ((fatR sy0 st0 xs0 st1 hd1 at1 (its1.map It.xs) (jts1.map It.xs) xs1 xs2).1.2).2]) := by first | exact q87.wider (Nat.le_refl _) (Nat.le_refl _) | exact q87.wider (Nat.le_of_eq (World.size_alloc ..).symm) (Nat.le_refl _)
        clear hb
        go_wp2_with fail
        refine hK _ _ ⟨⟨_, e0⟩, rfl⟩ ?_
        clear hK K
        (refine Mix.wpMix_pure (by rfl) ?_; go_big_quiet_step (fail); refine wpQuiet_nil ?_)
        (refine Mix.wpMix_pure (by rfl) ?_; go_big_quiet_step (fail); refine wpQuiet_nil ?_)
        (refine Mix.wpMix_pure (by rfl) ?_; go_big_quiet_step (fail); refine wpQuiet_nil ?_)
        repeat (first | (refine Mix.wpMix_read (by rfl) ?_; go_big_quiet_step (fail); refine wpQuiet_nil ?_) | (refine Mix.wpMix_pure (by rfl) ?_; go_big_quiet_step (fail); refine wpQuiet_nil ?_))
        have d0 := bk.cell 0; have f0 := bk.frozen 0
        simp at d0
        have d1 := bk.cell 1; have f1 := bk.frozen 1
        simp at d1
        have d2 := bk.cell 2; have f2 := bk.frozen 2
        simp at d2
        refine Mix.wpMix_tail (by rfl) (fun K hK => ?_)
        go_wp2_with fail
        refine hK _ _ ?_
        clear hK K
        repeat (first | (refine Mix.wpMix_read (by rfl) ?_; go_big_quiet_step (fail); refine wpQuiet_nil ?_) | (refine Mix.wpMix_pure (by rfl) ?_; go_big_quiet_step (fail); refine wpQuiet_nil ?_))
        (refine Mix.wpMix_nil ?_; try simp only [Exit.then])
        go_wp2_with fail
        go_meet
        have bk2 := (((bk.set_ 0 (.int .i64 (fatR sy0 st0 xs0 st1 hd1 at1 (its1.map It.xs) (jts1.map It.xs) xs1 xs2).1.1)).set_ 1 (.slice A80 n81 c82)).set_ 2 (.slice B83 m84 d85))
        refine ⟨u1.heap.size, A80, n81, c82, B83, m84, d85, rfl, rfl, (by have := bk2.cell 0; first | exact this | (simp; done) | simpa using this), (by have := bk2.cell 1; first | exact this | (simp; done) | simpa using this), (by have := bk2.cell 2; first | exact this | (simp; done) | simpa using this), ?_, l88, ?_, ?_⟩
        · first | exact (q87.alloc _).wider (by first | omega | exact Nat.le_refl _ | (simp; done) | (simp; omega)) (by first | omega | exact Nat.le_refl _ | (simp; done) | (simp; omega)) | exact (((q87.set_far (.inl (by first | omega | exact Nat.le_refl _ | (simp; done) | (simp; omega))) _).set_far (.inl (by first | omega | exact Nat.le_refl _ | (simp; done) | (simp; omega))) _).set_far (.inl (by first | omega | exact Nat.le_refl _ | (simp; done) | (simp; omega))) _).wider (by first | omega | exact Nat.le_refl _ | (simp; done) | (simp; omega)) (by first | omega | exact Nat.le_refl _ | (simp; done) | (simp; omega))
        · exact (by first | omega | exact Nat.le_refl _ | (simp; done) | (simp; omega))
        · first | exact (by have hzz := (e0).size; repeat' (first | (with_reducible exact e0) | (with_reducible refine Below.alloc ?_ ?_ _) | (with_reducible refine Below.setCell ?_ ?_ _) | (with_reducible refine below_drew ?_) | omega | (simp; done) | (simp; omega))) | exact (by have hzz := (e0p).size; repeat' (first | (with_reducible exact e0p) | (with_reducible refine Below.alloc ?_ ?_ _) | (with_reducible refine Below.setCell ?_ ?_ _) | (with_reducible refine below_drew ?_) | omega | (simp; done) | (simp; omega)))
      refine Mix.wpMix_chg (by rfl) (fun K hK => ?_)
      go_wp2_with fail
      refine (toFormula_c _ _ _ _ _ _ _ _ _ _ _ _ _ _ _ _ (by exact ((P1.out.rd).below e0)) (by omega) (by omega) (by omega) hI0_a1 hI1_a1).mono ?_
      rintro e u3 ⟨g0111, js0112, g1113, js1114, g2115, rfl, hx117, hx118, q116, hb⟩
      try simp only [World.size_alloc] at q116
      have hI_hx117 : ∀ t ∈ js0112, t.n ≤ 1000000000 := hi_of ((((P1.out.rd).below e0)).left.left) (((q116).rd).left.left) hx117 hI0_a1
      have hx117h := Lib.hid hx117; clear hx117
      have hI_hx118 : ∀ t ∈ js1114, t.n ≤ 1000000000 := hi_of ((((P1.out.rd).below e0)).left.right) (((q116).rd).left.right) hx118 hI1_a1
      have hx118h := Lib.hid hx118; clear hx118
      have e_q101 := below_chain e_q101 e_q101.size hb
      have e0 := below_chain e0 e0.size hb
      have e_q116 : Below u3.heap.size u3 u3 := below_size
      have zu3 : u1.heap.size ≤ u3.heap.size := by first | exact hb.size | exact Nat.le_trans (Nat.le_of_eq (World.size_alloc ..).symm) hb.size
      clear hb
      go_wp2_with fail
      refine hK _ _ ⟨⟨_, e0⟩, rfl⟩ ?_
      clear hK K
      refine Mix.wpMix_nil ?_
      refine Mix.wpF_0 ?_
      (refine Mix.wpMix_pure (by rfl) ?_; go_big_quiet_step (fail); refine wpQuiet_nil ?_)
      refine Mix.wpMix_nil ?_
      refine Mix.wpF_1 ?_ ?_
      · simp only [List.cons_append, List.nil_append]
        have e0p := e0
        refine Mix.wpMix_chg (by rfl) (fun K hK => ?_)
        go_wp2_with fail
        refine hK _ _ ⟨⟨_, e0.alloc e0.size _⟩, rfl⟩ ?_
        clear hK K
        have e_q101 := e_q101.alloc e_q101.size (.cells #[.int .i64 0, .slice none 0 0, .slice none 0 0] 59)
        have e_q116 := e_q116.alloc e_q116.size (.cells #[.int .i64 0, .slice none 0 0, .slice none 0 0] 59)
        have bk : Blk (u3.alloc (.cells #[.int .i64 0, .slice none 0 0, .slice none 0 0] 59)) u3.heap.size 59 #[.int .i64 0, .slice none 0 0, .slice none 0 0] := Blk.new _ _ _
        have e0 := e0.alloc e0.size (.cells #[.int .i64 0, .slice none 0 0, .slice none 0 0] 59)
        refine Mix.wpMix_chg (by rfl) (fun K hK => ?_)
        go_wp2_with fail
        refine (toInt64S_c _ _ _ _ _ (by exact ((P2.out.1).below e0)) (by omega)).mono ?_
        rintro e ua55 ⟨rfl, q119, hb⟩
        try simp only [World.size_alloc] at q119
        have e_q101 := below_chain e_q101 e_q101.size hb
        have e_q116 := below_chain e_q116 e_q116.size hb
        have e0 := below_chain e0 e0.size hb
        have bk := bk.keep hb
        have e_q119 : Below ua55.heap.size ua55 ua55 := below_size
        have zua55 : u3.heap.size + 1 ≤ ua55.heap.size := by first | exact hb.size | exact Nat.le_trans (Nat.le_of_eq (World.size_alloc ..).symm) hb.size
        clear hb
        go_wp2_with fail
        refine hK _ _ ⟨⟨_, e0⟩, rfl⟩ ?_
        clear hK K
        refine Mix.wpMix_chg (by rfl) (fun K hK => ?_)
        go_wp2_with fail
        refine (iFormulaAt_c _ _ _ _ _ _ _ _ _ _ _ _ _ _ _ _ _ _ _ _ _ _ _ _ _ _ (by exact (q101.below e_q101).rd) (by exact (q116.below e_q116).rd) (by exact (q119.below e_q119).rdI) (by omega) (by omega) (by omega) (by omega) (by omega) hI_hx117 hI_hx118 hx117h.out hx118h.out).mono ?_
        rintro e ua56 ⟨A80, n81, c82, B83, m84, d85, rfl, q87, l88, hb⟩
        have e_q101 := below_chain e_q101 e_q101.size hb
        have e_q116 := below_chain e_q116 e_q116.size hb
        have e_q119 := below_chain e_q119 e_q119.size hb
        have e0 := below_chain e0 e0.size hb
        have bk := bk.keep hb
        have e_q87 : Below ua56.heap.size ua56 ua56 := below_size
        have zua56 : ua55.heap.size ≤ ua56.heap.size := by first | exact hb.size | exact Nat.le_trans (Nat.le_of_eq (World.size_alloc ..).symm) hb.size
        have q87 : WrS ua56 (ua55.heap.size) ua56.heap.size ([sgI A80 n81 ((fatR sy0 st0 xs0 st1 hd1 at1 (its1.map It.xs) (jts1.map It.xs) xs1 xs2).1.2).1] ++ [sgI B83 m84 ((fatR sy0 st0 xs0 st1 hd1 at1 (its1.map It.xs) (jts1.map It.xs) xs1 xs2).1.2).2]) := by first | exact q87.wider (Nat.le_refl _) (Nat.le_refl _) | exact q87.wider (Nat.le_of_eq (World.size_alloc ..).symm) (Nat.le_refl _)
        clear hb
        go_wp2_with fail
        refine hK _ _ ⟨⟨_, e0⟩, rfl⟩ ?_
        clear hK K
        (refine Mix.wpMix_pure (by rfl) ?_; go_big_quiet_step (fail); refine wpQuiet_nil ?_)
        (refine Mix.wpMix_pure (by rfl) ?_; go_big_quiet_step (fail); refine wpQuiet_nil ?_)
        (refine Mix.wpMix_pure (by rfl) ?_; go_big_quiet_step (fail); refine wpQuiet_nil ?_)
        repeat (first | (refine Mix.wpMix_read (by rfl) ?_; go_big_quiet_step (fail); refine wpQuiet_nil ?_) | (refine Mix.wpMix_pure (by rfl) ?_; go_big_quiet_step (fail); refine wpQuiet_nil ?_))
        have d0 := bk.cell 0; have f0 := bk.frozen 0
        simp at d0
        have d1 := bk.cell 1; have f1 := bk.frozen 1
        simp at d1
        have d2 := bk.cell 2; have f2 := bk.frozen 2
        simp at d2
        refine Mix.wpMix_tail (by rfl) (fun K hK => ?_)
        go_wp2_with fail
        refine hK _ _ ?_
        clear hK K
        repeat (first | (refine Mix.wpMix_read (by rfl) ?_; go_big_quiet_step (fail); refine wpQuiet_nil ?_) | (refine Mix.wpMix_pure (by rfl) ?_; go_big_quiet_step (fail); refine wpQuiet_nil ?_))
        (refine Mix.wpMix_nil ?_; try simp only [Exit.then])
        go_wp2_with fail
        go_meet
        have bk2 := (((bk.set_ 0 (.int .i64 (fatR sy0 st0 xs0 st1 hd1 at1 (its1.map It.xs) (jts1.map It.xs) xs1 xs2).1.1)).set_ 1 (.slice A80 n81 c82)).set_ 2 (.slice B83 m84 d85))
        refine ⟨u3.heap.size, A80, n81, c82, B83, m84, d85, rfl, rfl, (by have := bk2.cell 0; first | exact this | (simp; done) | simpa using this), (by have := bk2.cell 1; first | exact this | (simp; done) | simpa using this), (by have := bk2.cell 2; first | exact this | (simp; done) | simpa using this), ?_, l88, ?_, ?_⟩
        · first | exact (q87.alloc _).wider (by first | omega | exact Nat.le_refl _ | (simp; done) | (simp; omega)) (by first | omega | exact Nat.le_refl _ | (simp; done) | (simp; omega)) | exact (((q87.set_far (.inl (by first | omega | exact Nat.le_refl _ | (simp; done) | (simp; omega))) _).set_far (.inl (by first | omega | exact Nat.le_refl _ | (simp; done) | (simp; omega))) _).set_far (.inl (by first | omega | exact Nat.le_refl _ | (simp; done) | (simp; omega))) _).wider (by first | omega | exact Nat.le_refl _ | (simp; done) | (simp; omega)) (by first | omega | exact Nat.le_refl _ | (simp; done) | (simp; omega))
        · exact (by first | omega | exact Nat.le_refl _ | (simp; done) | (simp; omega))
        · first | exact (by have hzz := (e0).size; repeat' (first | (with_reducible exact e0) | (with_reducible refine Below.alloc ?_ ?_ _) | (with_reducible refine Below.setCell ?_ ?_ _) | (with_reducible refine below_drew ?_) | omega | (simp; done) | (simp; omega))) | exact (by have hzz := (e0p).size; repeat' (first | (with_reducible exact e0p) | (with_reducible refine Below.alloc ?_ ?_ _) | (with_reducible refine Below.setCell ?_ ?_ _) | (with_reducible refine below_drew ?_) | omega | (simp; done) | (simp; omega)))
      refine Mix.wpMix_chg (by rfl) (fun K hK => ?_)
      go_wp2_with fail
      refine (toInt64S_c _ _ _ _ _ (by exact ((P2.out.1).below e0)) (by omega)).mono ?_
      rintro e u5 ⟨rfl, q120, hb⟩
      try simp only [World.size_alloc] at q120
      have e_q101 := below_chain e_q101 e_q101.size hb
      have e_q116 := below_chain e_q116 e_q116.size hb
      have e0 := below_chain e0 e0.size hb
      have e_q120 : Below u5.heap.size u5 u5 := below_size
      have zu5 : u3.heap.size ≤ u5.heap.size := by first | exact hb.size | exact Nat.le_trans (Nat.le_of_eq (World.size_alloc ..).symm) hb.size
      clear hb
      go_wp2_with fail
      refine hK _ _ ⟨⟨_, e0⟩, rfl⟩ ?_
      clear hK K
      refine Mix.wpMix_nil ?_
      refine Mix.wpF_1 ?_ ?_
      · simp only [List.cons_append, List.nil_append]
        have e0p := e0
        refine Mix.wpMix_chg (by rfl) (fun K hK => ?_)
        go_wp2_with fail
        refine hK _ _ ⟨⟨_, e0.alloc e0.size _⟩, rfl⟩ ?_
        clear hK K
        have e_q101 := e_q101.alloc e_q101.size (.cells #[.int .i64 0, .slice none 0 0, .slice none 0 0] 59)
        have e_q116 := e_q116.alloc e_q116.size (.cells #[.int .i64 0, .slice none 0 0, .slice none 0 0] 59)
        have e_q120 := e_q120.alloc e_q120.size (.cells #[.int .i64 0, .slice none 0 0, .slice none 0 0] 59)
        have bk : Blk (u5.alloc (.cells #[.int .i64 0, .slice none 0 0, .slice none 0 0] 59)) u5.heap.size 59 #[.int .i64 0, .slice none 0 0, .slice none 0 0] := Blk.new _ _ _
        have e0 := e0.alloc e0.size (.cells #[.int .i64 0, .slice none 0 0, .slice none 0 0] 59)
        refine Mix.wpMix_chg (by rfl) (fun K hK => ?_)
        go_wp2_with fail
        refine (iFormulaAt_c _ _ _ _ _ _ _ _ _ _ _ _ _ _ _ _ _ _ _ _ _ _ _ _ _ _ (by exact (q101.below e_q101).rd) (by exact (q116.below e_q116).rd) (by exact (q120.below e_q120).rdI) (by omega) (by omega) (by omega) (by omega) (by omega) hI_hx117 hI_hx118 hx117h.out hx118h.out).mono ?_
        rintro e ua66 ⟨A80, n81, c82, B83, m84, d85, rfl, q87, l88, hb⟩
        have e_q101 := below_chain e_q101 e_q101.size hb
        have e_q116 := below_chain e_q116 e_q116.size hb
        have e_q120 := below_chain e_q120 e_q120.size hb
        have e0 := below_chain e0 e0.size hb
        have bk := bk.keep hb
        have e_q87 : Below ua66.heap.size ua66 ua66 := below_size
        have zua66 : u5.heap.size + 1 ≤ ua66.heap.size := by first | exact hb.size | exact Nat.le_trans (Nat.le_of_eq (World.size_alloc ..).symm) hb.size
        have q87 : WrS ua66 (u5.heap.size + 1) ua66.heap.size ([sgI A80 n81 ((fatR sy0 st0 xs0 st1 hd1 at1 (its1.map It.xs) (jts1.map It.xs) xs1 xs2).1.2).1] ++ [sgI B83 m84 ((fatR sy0 st0 xs0 st1 hd1 at1 (its1.map It.xs) (jts1.map It.xs) xs1 xs2).1.2).2]) := by first | exact q87.wider (Nat.le_refl _) (Nat.le_refl _) | exact q87.wider (Nat.le_of_eq (World.size_alloc ..).symm) (Nat.le_refl _)
        clear hb
        go_wp2_with fail
        refine hK _ _ ⟨⟨_, e0⟩, rfl⟩ ?_
        clear hK K
        (refine Mix.wpMix_pure (by rfl) ?_; go_big_quiet_step (fail); refine wpQuiet_nil ?_)
        (refine Mix.wpMix_pure (by rfl) ?_; go_big_quiet_step (fail); refine wpQuiet_nil ?_)
        (refine Mix.wpMix_pure (by rfl) ?_; go_big_quiet_step (fail); refine wpQuiet_nil ?_)
        repeat (first | (refine Mix.wpMix_read (by rfl) ?_; go_big_quiet_step (fail); refine wpQuiet_nil ?_) | (refine Mix.wpMix_pure (by rfl) ?_; go_big_quiet_step (fail); refine wpQuiet_nil ?_))
        have d0 := bk.cell 0; have f0 := bk.frozen 0
        simp at d0
        have d1 := bk.cell 1; have f1 := bk.frozen 1
        simp at d1
        have d2 := bk.cell 2; have f2 := bk.frozen 2
        simp at d2
        refine Mix.wpMix_tail (by rfl) (fun K hK => ?_)
        go_wp2_with fail
        refine hK _ _ ?_
        clear hK K
        repeat (first | (refine Mix.wpMix_read (by rfl) ?_; go_big_quiet_step (fail); refine wpQuiet_nil ?_) | (refine Mix.wpMix_pure (by rfl) ?_; go_big_quiet_step (fail); refine wpQuiet_nil ?_))
        (refine Mix.wpMix_nil ?_; try simp only [Exit.then])
        go_wp2_with fail
        go_meet
        have bk2 := (((bk.set_ 0 (.int .i64 (fatR sy0 st0 xs0 st1 hd1 at1 (its1.map It.xs) (jts1.map It.xs) xs1 xs2).1.1)).set_ 1 (.slice A80 n81 c82)).set_ 2 (.slice B83 m84 d85))
        refine ⟨u5.heap.size, A80, n81, c82, B83, m84, d85, rfl, rfl, (by have := bk2.cell 0; first | exact this | (simp; done) | simpa using this), (by have := bk2.cell 1; first | exact this | (simp; done) | simpa using this), (by have := bk2.cell 2; first | exact this | (simp; done) | simpa using this), ?_, l88, ?_, ?_⟩
        · first | exact (q87.alloc _).wider (by first | omega | exact Nat.le_refl _ | (simp; done) | (simp; omega)) (by first | omega | exact Nat.le_refl _ | (simp; done) | (simp; omega)) | exact (((q87.set_far (.inl (by first | omega | exact Nat.le_refl _ | (simp; done) | (simp; omega))) _).set_far (.inl (by first | omega | exact Nat.le_refl _ | (simp; done) | (simp; omega))) _).set_far (.inl (by first | omega | exact Nat.le_refl _ | (simp; done) | (simp; omega))) _).wider (by first | omega | exact Nat.le_refl _ | (simp; done) | (simp; omega)) (by first | omega | exact Nat.le_refl _ | (simp; done) | (simp; omega))
        · exact (by first | omega | exact Nat.le_refl _ | (simp; done) | (simp; omega))
        · first | exact (by have hzz := (e0).size; repeat' (first | (with_reducible exact e0) | (with_reducible refine Below.alloc ?_ ?_ _) | (with_reducible refine Below.setCell ?_ ?_ _) | (with_reducible refine below_drew ?_) | omega | (simp; done) | (simp; omega))) | exact (by have hzz := (e0p).size; repeat' (first | (with_reducible exact e0p) | (with_reducible refine Below.alloc ?_ ?_ _) | (with_reducible refine Below.setCell ?_ ?_ _) | (with_reducible refine below_drew ?_) | omega | (simp; done) | (simp; omega)))
      refine Mix.wpMix_chg (by rfl) (fun K hK => ?_)
      go_wp2_with fail
      refine (iFormulaAt_c _ _ _ _ _ _ _ _ _ _ _ _ _ _ _ _ _ _ _ _ _ _ _ _ _ _ (by exact (q101.below e_q101).rd) (by exact (q116.below e_q116).rd) (by exact (q120.below e_q120).rdI) (by omega) (by omega) (by omega) (by omega) (by omega) hI_hx117 hI_hx118 hx117h.out hx118h.out).mono ?_
      rintro e u6 ⟨A80, n81, c82, B83, m84, d85, rfl, q87, l88, hb⟩
      have e_q101 := below_chain e_q101 e_q101.size hb
      have e_q116 := below_chain e_q116 e_q116.size hb
      have e_q120 := below_chain e_q120 e_q120.size hb
      have e0 := below_chain e0 e0.size hb
      have e_q87 : Below u6.heap.size u6 u6 := below_size
      have zu6 : u5.heap.size ≤ u6.heap.size := by first | exact hb.size | exact Nat.le_trans (Nat.le_of_eq (World.size_alloc ..).symm) hb.size
      have q87 : WrS u6 (u5.heap.size) u6.heap.size ([sgI A80 n81 ((fatR sy0 st0 xs0 st1 hd1 at1 (its1.map It.xs) (jts1.map It.xs) xs1 xs2).1.2).1] ++ [sgI B83 m84 ((fatR sy0 st0 xs0 st1 hd1 at1 (its1.map It.xs) (jts1.map It.xs) xs1 xs2).1.2).2]) := by first | exact q87.wider (Nat.le_refl _) (Nat.le_refl _) | exact q87.wider (Nat.le_of_eq (World.size_alloc ..).symm) (Nat.le_refl _)
      clear hb
      go_wp2_with fail
      refine hK _ _ ⟨⟨_, e0⟩, rfl⟩ ?_
      clear hK K
      refine Mix.wpMix_nil ?_
      refine Mix.wpF_0 ?_
      (refine Mix.wpMix_pure (by rfl) ?_; go_big_quiet_step (fail); refine wpQuiet_nil ?_)
      refine Mix.wpMix_nil ?_
      refine Mix.wpF_0 ?_
      (refine Mix.wpMix_pure (by rfl) ?_; go_big_quiet_step (fail); refine wpQuiet_nil ?_)
      refine Mix.wpMix_nil ?_
      refine Mix.wpF_0 ?_
      (refine Mix.wpMix_pure (by rfl) ?_; go_big_quiet_step (fail); refine wpQuiet_nil ?_)
      refine Mix.wpMix_nil ?_
      refine Mix.wpF_nil ?_
      have e0p := e0
      refine Mix.wpMix_chg (by rfl) (fun K hK => ?_)
      go_wp2_with fail
      refine hK _ _ ⟨⟨_, e0.alloc e0.size _⟩, rfl⟩ ?_
      clear hK K
      have e_q101 := e_q101.alloc e_q101.size (.cells #[.int .i64 0, .slice none 0 0, .slice none 0 0] 59)
      have e_q116 := e_q116.alloc e_q116.size (.cells #[.int .i64 0, .slice none 0 0, .slice none 0 0] 59)
      have e_q120 := e_q120.alloc e_q120.size (.cells #[.int .i64 0, .slice none 0 0, .slice none 0 0] 59)
      have e_q87 := e_q87.alloc e_q87.size (.cells #[.int .i64 0, .slice none 0 0, .slice none 0 0] 59)
      have bk : Blk (u6.alloc (.cells #[.int .i64 0, .slice none 0 0, .slice none 0 0] 59)) u6.heap.size 59 #[.int .i64 0, .slice none 0 0, .slice none 0 0] := Blk.new _ _ _
      have e0 := e0.alloc e0.size (.cells #[.int .i64 0, .slice none 0 0, .slice none 0 0] 59)
      repeat (first | (refine Mix.wpMix_read (by rfl) ?_; go_big_quiet_step (fail); refine wpQuiet_nil ?_) | (refine Mix.wpMix_pure (by rfl) ?_; go_big_quiet_step (fail); refine wpQuiet_nil ?_))
      have d0 := bk.cell 0; have f0 := bk.frozen 0
      simp at d0
      have d1 := bk.cell 1; have f1 := bk.frozen 1
      simp at d1
      have d2 := bk.cell 2; have f2 := bk.frozen 2
      simp at d2
      refine Mix.wpMix_tail (by rfl) (fun K hK => ?_)
      go_wp2_with fail
      refine hK _ _ ?_
      clear hK K
      repeat (first | (refine Mix.wpMix_read (by rfl) ?_; go_big_quiet_step (fail); refine wpQuiet_nil ?_) | (refine Mix.wpMix_pure (by rfl) ?_; go_big_quiet_step (fail); refine wpQuiet_nil ?_))
      (refine Mix.wpMix_nil ?_; try simp only [Exit.then])
      go_wp2_with fail
      go_meet
      have bk2 := (((bk.set_ 0 (.int .i64 (fatR sy0 st0 xs0 st1 hd1 at1 (its1.map It.xs) (jts1.map It.xs) xs1 xs2).1.1)).set_ 1 (.slice A80 n81 c82)).set_ 2 (.slice B83 m84 d85))
      refine ⟨u6.heap.size, A80, n81, c82, B83, m84, d85, rfl, rfl, (by have := bk2.cell 0; first | exact this | (simp; done) | simpa using this), (by have := bk2.cell 1; first | exact this | (simp; done) | simpa using this), (by have := bk2.cell 2; first | exact this | (simp; done) | simpa using this), ?_, l88, ?_, ?_⟩
      · first | exact (q87.alloc _).wider (by first | omega | exact Nat.le_refl _ | (simp; done) | (simp; omega)) (by first | omega | exact Nat.le_refl _ | (simp; done) | (simp; omega)) | exact (((q87.set_far (.inl (by first | omega | exact Nat.le_refl _ | (simp; done) | (simp; omega))) _).set_far (.inl (by first | omega | exact Nat.le_refl _ | (simp; done) | (simp; omega))) _).set_far (.inl (by first | omega | exact Nat.le_refl _ | (simp; done) | (simp; omega))) _).wider (by first | omega | exact Nat.le_refl _ | (simp; done) | (simp; omega)) (by first | omega | exact Nat.le_refl _ | (simp; done) | (simp; omega))
      · exact (by first | omega | exact Nat.le_refl _ | (simp; done) | (simp; omega))
      · first | exact (by have hzz := (e0).size; repeat' (first | (with_reducible exact e0) | (with_reducible refine Below.alloc ?_ ?_ _) | (with_reducible refine Below.setCell ?_ ?_ _) | (with_reducible refine below_drew ?_) | omega | (simp; done) | (simp; omega))) | exact (by have hzz := (e0p).size; repeat' (first | (with_reducible exact e0p) | (with_reducible refine Below.alloc ?_ ?_ _) | (with_reducible refine Below.setCell ?_ ?_ _) | (with_reducible refine below_drew ?_) | omega | (simp; done) | (simp; omega)))
    case rest =>
      obtain ⟨g86, A80, n81, c82, B83, m84, d85, rfl, rfl, nc0, nc1, nc2, q87, l88, hgg86, hb'⟩ := hcut
      obtain ⟨w21, rfl⟩ : ∃ w21 : World, w21 = wc := ⟨_, rfl⟩
      have z21 := hb'.size
      have hlg86 : g86 < w21.heap.size := World.block_lt_of_cell? w21 _ nc0
      have c21_a0_0 : w21.cell? ⟨w.heap.size, 0, none⟩ = some (.int .i64 sy0) := keepc hb' c20_a0_0
      clear c20_a0_0 ac20_a0_0
      have c21_a0_1 : w21.cell? ⟨w.heap.size, 1, none⟩ = some (.int .i64 st0) := keepc hb' c20_a0_1
      clear c20_a0_1 ac20_a0_1
      have c21_a0_2 : w21.cell? ⟨w.heap.size, 2, none⟩ = some (.slice A0 n0 c0) := keepc hb' c20_a0_2
      clear c20_a0_2 ac20_a0_2
      have c21_a1_0 : w21.cell? ⟨(w.heap.size + 1), 0, none⟩ = some (.int .i64 st1) := keepc hb' c20_a1_0
      clear c20_a1_0 ac20_a1_0
      have c21_a1_1 : w21.cell? ⟨(w.heap.size + 1), 1, none⟩ = some (.int .i64 hd1) := keepc hb' c20_a1_1
      clear c20_a1_1 ac20_a1_1
      have c21_a1_2 : w21.cell? ⟨(w.heap.size + 1), 2, none⟩ = some (.int .i64 at1) := keepc hb' c20_a1_2
      clear c20_a1_2 ac20_a1_2
      have c21_a1_3 : w21.cell? ⟨(w.heap.size + 1), 3, none⟩ = some (.slice A1 n1 c1) := keepc hb' c20_a1_3
      clear c20_a1_3 ac20_a1_3
      have c21_a1_4 : w21.cell? ⟨(w.heap.size + 1), 4, none⟩ = some (.slice B1 m1 d1) := keepc hb' c20_a1_4
      clear c20_a1_4 ac20_a1_4
      have c21_a1_5 : w21.cell? ⟨(w.heap.size + 1), 5, none⟩ = some (.slice C1 k1 e1) := keepc hb' c20_a1_5
      clear c20_a1_5 ac20_a1_5
      have c21_o52_0 : w21.cell? ⟨g17, 0, none⟩ = some (.int .i64 (fatR sy0 st0 xs0 st1 hd1 at1 (its1.map It.xs) (jts1.map It.xs) xs1 xs2).1.1) := keepc hb' c20_o52_0
      clear c20_o52_0 ac20_o52_0
      have c21_o52_1 : w21.cell? ⟨g17, 1, none⟩ = some (.slice A11 n12 c13) := keepc hb' c20_o52_1
      clear c20_o52_1 ac20_o52_1
      have c21_o52_2 : w21.cell? ⟨g17, 2, none⟩ = some (.slice B14 m15 d16) := keepc hb' c20_o52_2
      clear c20_o52_2 ac20_o52_2
      have c21_o54_0 : w21.cell? ⟨w4.heap.size, 0, none⟩ = some (.int .i64 sy0) := keepc hb' c20_o54_0
      clear c20_o54_0 ac20_o54_0
      have c21_o54_1 : w21.cell? ⟨w4.heap.size, 1, none⟩ = some (.int .i64 st0) := keepc hb' c20_o54_1
      clear c20_o54_1 ac20_o54_1
      have c21_o54_2 : w21.cell? ⟨w4.heap.size, 2, none⟩ = some (.slice (some ⟨g053, 0, none⟩) n0 n0) := keepc hb' c20_o54_2
      clear c20_o54_2 ac20_o54_2
      have c21_o60_0 : w21.cell? ⟨w5.heap.size, 0, none⟩ = some (.int .i64 st1) := keepc hb' c20_o60_0
      clear c20_o60_0 ac20_o60_0
      have c21_o60_1 : w21.cell? ⟨w5.heap.size, 1, none⟩ = some (.int .i64 hd1) := keepc hb' c20_o60_1
      clear c20_o60_1 ac20_o60_1
      have c21_o60_2 : w21.cell? ⟨w5.heap.size, 2, none⟩ = some (.int .i64 at1) := keepc hb' c20_o60_2
      clear c20_o60_2 ac20_o60_2
      have c21_o60_3 : w21.cell? ⟨w5.heap.size, 3, none⟩ = some (.slice (some ⟨g055, 0, none⟩) n1 n1) := keepc hb' c20_o60_3
      clear c20_o60_3 ac20_o60_3
      have c21_o60_4 : w21.cell? ⟨w5.heap.size, 4, none⟩ = some (.slice (some ⟨g157, 0, none⟩) m1 m1) := keepc hb' c20_o60_4
      clear c20_o60_4 ac20_o60_4
      have c21_o60_5 : w21.cell? ⟨w5.heap.size, 5, none⟩ = some (.slice (some ⟨g259, 0, none⟩) k1 k1) := keepc hb' c20_o60_5
      clear c20_o60_5 ac20_o60_5
      have c21_o70_0 : w21.cell? ⟨w7.heap.size, 0, none⟩ = some (.int .i64 (fatR sy0 st0 xs0 st1 hd1 at1 (its1.map It.xs) (jts1.map It.xs) xs1 xs2).1.1) := keepc hb' c20_o70_0
      clear c20_o70_0 ac20_o70_0
      have c21_o70_1 : w21.cell? ⟨w7.heap.size, 1, none⟩ = some (.slice A62 n63 c64) := keepc hb' c20_o70_1
      clear c20_o70_1 ac20_o70_1
      have c21_o70_2 : w21.cell? ⟨w7.heap.size, 2, none⟩ = some (.slice B65 m66 d67) := keepc hb' c20_o70_2
      clear c20_o70_2 ac20_o70_2
      have c21_o121_0 := nc0; clear nc0
      have c21_o121_1 := nc1; clear nc1
      have c21_o121_2 := nc2; clear nc2
      have ac21_a0_0 := fun o => keepa o c21_a0_0
      have ac21_a0_1 := fun o => keepa o c21_a0_1
      have ac21_a0_2 := fun o => keepa o c21_a0_2
      have ac21_a1_0 := fun o => keepa o c21_a1_0
      have ac21_a1_1 := fun o => keepa o c21_a1_1
      have ac21_a1_2 := fun o => keepa o c21_a1_2
      have ac21_a1_3 := fun o => keepa o c21_a1_3
      have ac21_a1_4 := fun o => keepa o c21_a1_4
      have ac21_a1_5 := fun o => keepa o c21_a1_5
      have ac21_o52_0 := fun o => keepa o c21_o52_0
      have ac21_o52_1 := fun o => keepa o c21_o52_1
      have ac21_o52_2 := fun o => keepa o c21_o52_2
      have ac21_o54_0 := fun o => keepa o c21_o54_0
      have ac21_o54_1 := fun o => keepa o c21_o54_1
      have ac21_o54_2 := fun o => keepa o c21_o54_2
      have ac21_o60_0 := fun o => keepa o c21_o60_0
      have ac21_o60_1 := fun o => keepa o c21_o60_1
      have ac21_o60_2 := fun o => keepa o c21_o60_2
      have ac21_o60_3 := fun o => keepa o c21_o60_3
      have ac21_o60_4 := fun o => keepa o c21_o60_4
      have ac21_o60_5 := fun o => keepa o c21_o60_5
      have ac21_o70_0 := fun o => keepa o c21_o70_0
      have ac21_o70_1 := fun o => keepa o c21_o70_1
      have ac21_o70_2 := fun o => keepa o c21_o70_2
      have ac21_o121_0 := fun o => keepa o c21_o121_0
      have ac21_o121_1 := fun o => keepa o c21_o121_1
      have ac21_o121_2 := fun o => keepa o c21_o121_2
      have rP0 := P0.out.below hb'; clear P0; have P0 := Lib.hid rP0; clear rP0
      have rP1 := P1.out.below hb'; clear P1; have P1 := Lib.hid rP1; clear rP1
      have rP2 := P2.out.below hb'; clear P2; have P2 := Lib.hid rP2; clear rP2
      have rFo52 := Fo52.out.below hb'; clear Fo52; have Fo52 := Lib.hid rFo52; clear rFo52
      have rFo54 := Fo54.out.below hb'; clear Fo54; have Fo54 := Lib.hid rFo54; clear rFo54
      have rFo60 := Fo60.out.below hb'; clear Fo60; have Fo60 := Lib.hid rFo60; clear rFo60
      have rFo61 := Fo61.out.below hb'; clear Fo61; have Fo61 := Lib.hid rFo61; clear rFo61
      have rFo70 := Fo70.out.below hb'; clear Fo70; have Fo70 := Lib.hid rFo70; clear rFo70
      have rFo79 := Fo79.out.below hb'; clear Fo79; have Fo79 := Lib.hid rFo79; clear rFo79
      have rB := below_chain B.out (by omega) hb'; clear B; have B := Lib.hid rB; clear rB hb'
      have Fo121 := Lib.hid q87; clear q87
      go_wp2_with fail
      refine (eqConfig_t _ _ _ _ _ _ _ _ _ _ _ _ _ _ _ _ (by exact (Fo121.out.rd)) (by exact (Fo52.out.rd)) (by omega) (by omega)).mono ?_
      rintro e w22 ⟨rfl, hb⟩
      have hb' : Below w21.heap.size w21 w22 := (by first | (with_reducible exact hb) | (with_reducible exact up1 hb) | (with_reducible exact up2 hb) | (with_reducible exact up3 hb) | (with_reducible exact up4 hb) | (with_reducible exact below_of_drew hb) | (with_reducible exact below_of_drew (up1 hb)))
      have z22 := hb'.size
      have c22_a0_0 : w22.cell? ⟨w.heap.size, 0, none⟩ = some (.int .i64 sy0) := keepc hb' c21_a0_0
      clear c21_a0_0 ac21_a0_0
      have c22_a0_1 : w22.cell? ⟨w.heap.size, 1, none⟩ = some (.int .i64 st0) := keepc hb' c21_a0_1
      clear c21_a0_1 ac21_a0_1
      have c22_a0_2 : w22.cell? ⟨w.heap.size, 2, none⟩ = some (.slice A0 n0 c0) := keepc hb' c21_a0_2
      clear c21_a0_2 ac21_a0_2
      have c22_a1_0 : w22.cell? ⟨(w.heap.size + 1), 0, none⟩ = some (.int .i64 st1) := keepc hb' c21_a1_0
      clear c21_a1_0 ac21_a1_0
      have c22_a1_1 : w22.cell? ⟨(w.heap.size + 1), 1, none⟩ = some (.int .i64 hd1) := keepc hb' c21_a1_1
      clear c21_a1_1 ac21_a1_1
      have c22_a1_2 : w22.cell? ⟨(w.heap.size + 1), 2, none⟩ = some (.int .i64 at1) := keepc hb' c21_a1_2
      clear c21_a1_2 ac21_a1_2
      have c22_a1_3 : w22.cell? ⟨(w.heap.size + 1), 3, none⟩ = some (.slice A1 n1 c1) := keepc hb' c21_a1_3
      clear c21_a1_3 ac21_a1_3
      have c22_a1_4 : w22.cell? ⟨(w.heap.size + 1), 4, none⟩ = some (.slice B1 m1 d1) := keepc hb' c21_a1_4
      clear c21_a1_4 ac21_a1_4
      have c22_a1_5 : w22.cell? ⟨(w.heap.size + 1), 5, none⟩ = some (.slice C1 k1 e1) := keepc hb' c21_a1_5
      clear c21_a1_5 ac21_a1_5
      have c22_o52_0 : w22.cell? ⟨g17, 0, none⟩ = some (.int .i64 (fatR sy0 st0 xs0 st1 hd1 at1 (its1.map It.xs) (jts1.map It.xs) xs1 xs2).1.1) := keepc hb' c21_o52_0
      clear c21_o52_0 ac21_o52_0
      have c22_o52_1 : w22.cell? ⟨g17, 1, none⟩ = some (.slice A11 n12 c13) := keepc hb' c21_o52_1
      clear c21_o52_1 ac21_o52_1
      have c22_o52_2 : w22.cell? ⟨g17, 2, none⟩ = some (.slice B14 m15 d16) := keepc hb' c21_o52_2
      clear c21_o52_2 ac21_o52_2
      have c22_o54_0 : w22.cell? ⟨w4.heap.size, 0, none⟩ = some (.int .i64 sy0) := keepc hb' c21_o54_0
      clear c21_o54_0 ac21_o54_0
      have c22_o54_1 : w22.cell? ⟨w4.heap.size, 1, none⟩ = some (.int .i64 st0) := keepc hb' c21_o54_1
      clear c21_o54_1 ac21_o54_1
      have c22_o54_2 : w22.cell? ⟨w4.heap.size, 2, none⟩ = some (.slice (some ⟨g053, 0, none⟩) n0 n0) := keepc hb' c21_o54_2
      clear c21_o54_2 ac21_o54_2
      have c22_o60_0 : w22.cell? ⟨w5.heap.size, 0, none⟩ = some (.int .i64 st1) := keepc hb' c21_o60_0
      clear c21_o60_0 ac21_o60_0
      have c22_o60_1 : w22.cell? ⟨w5.heap.size, 1, none⟩ = some (.int .i64 hd1) := keepc hb' c21_o60_1
      clear c21_o60_1 ac21_o60_1
      have c22_o60_2 : w22.cell? ⟨w5.heap.size, 2, none⟩ = some (.int .i64 at1) := keepc hb' c21_o60_2
      clear c21_o60_2 ac21_o60_2
      have c22_o60_3 : w22.cell? ⟨w5.heap.size, 3, none⟩ = some (.slice (some ⟨g055, 0, none⟩) n1 n1) := keepc hb' c21_o60_3
      clear c21_o60_3 ac21_o60_3
      have c22_o60_4 : w22.cell? ⟨w5.heap.size, 4, none⟩ = some (.slice (some ⟨g157, 0, none⟩) m1 m1) := keepc hb' c21_o60_4
      clear c21_o60_4 ac21_o60_4
      have c22_o60_5 : w22.cell? ⟨w5.heap.size, 5, none⟩ = some (.slice (some ⟨g259, 0, none⟩) k1 k1) := keepc hb' c21_o60_5
      clear c21_o60_5 ac21_o60_5
      have c22_o70_0 : w22.cell? ⟨w7.heap.size, 0, none⟩ = some (.int .i64 (fatR sy0 st0 xs0 st1 hd1 at1 (its1.map It.xs) (jts1.map It.xs) xs1 xs2).1.1) := keepc hb' c21_o70_0
      clear c21_o70_0 ac21_o70_0
      have c22_o70_1 : w22.cell? ⟨w7.heap.size, 1, none⟩ = some (.slice A62 n63 c64) := keepc hb' c21_o70_1
      clear c21_o70_1 ac21_o70_1
      have c22_o70_2 : w22.cell? ⟨w7.heap.size, 2, none⟩ = some (.slice B65 m66 d67) := keepc hb' c21_o70_2
      clear c21_o70_2 ac21_o70_2
      have c22_o121_0 : w22.cell? ⟨g86, 0, none⟩ = some (.int .i64 (fatR sy0 st0 xs0 st1 hd1 at1 (its1.map It.xs) (jts1.map It.xs) xs1 xs2).1.1) := keepc hb' c21_o121_0
      clear c21_o121_0 ac21_o121_0
      have c22_o121_1 : w22.cell? ⟨g86, 1, none⟩ = some (.slice A80 n81 c82) := keepc hb' c21_o121_1
      clear c21_o121_1 ac21_o121_1
      have c22_o121_2 : w22.cell? ⟨g86, 2, none⟩ = some (.slice B83 m84 d85) := keepc hb' c21_o121_2
      clear c21_o121_2 ac21_o121_2
      have ac22_a0_0 := fun o => keepa o c22_a0_0
      have ac22_a0_1 := fun o => keepa o c22_a0_1
      have ac22_a0_2 := fun o => keepa o c22_a0_2
      have ac22_a1_0 := fun o => keepa o c22_a1_0
      have ac22_a1_1 := fun o => keepa o c22_a1_1
      have ac22_a1_2 := fun o => keepa o c22_a1_2
      have ac22_a1_3 := fun o => keepa o c22_a1_3
      have ac22_a1_4 := fun o => keepa o c22_a1_4
      have ac22_a1_5 := fun o => keepa o c22_a1_5
      have ac22_o52_0 := fun o => keepa o c22_o52_0
      have ac22_o52_1 := fun o => keepa o c22_o52_1
      have ac22_o52_2 := fun o => keepa o c22_o52_2
      have ac22_o54_0 := fun o => keepa o c22_o54_0
      have ac22_o54_1 := fun o => keepa o c22_o54_1
      have ac22_o54_2 := fun o => keepa o c22_o54_2
      have ac22_o60_0 := fun o => keepa o c22_o60_0
      have ac22_o60_1 := fun o => keepa o c22_o60_1
      have ac22_o60_2 := fun o => keepa o c22_o60_2
      have ac22_o60_3 := fun o => keepa o c22_o60_3
      have ac22_o60_4 := fun o => keepa o c22_o60_4
      have ac22_o60_5 := fun o => keepa o c22_o60_5
      have ac22_o70_0 := fun o => keepa o c22_o70_0
      have ac22_o70_1 := fun o => keepa o c22_o70_1
      have ac22_o70_2 := fun o => keepa o c22_o70_2
      have ac22_o121_0 := fun o => keepa o c22_o121_0
      have ac22_o121_1 := fun o => keepa o c22_o121_1
      have ac22_o121_2 := fun o => keepa o c22_o121_2
      have rP0 := P0.out.below hb'; clear P0; have P0 := Lib.hid rP0; clear rP0
      have rP1 := P1.out.below hb'; clear P1; have P1 := Lib.hid rP1; clear rP1
      have rP2 := P2.out.below hb'; clear P2; have P2 := Lib.hid rP2; clear rP2
      have rFo52 := Fo52.out.below hb'; clear Fo52; have Fo52 := Lib.hid rFo52; clear rFo52
      have rFo54 := Fo54.out.below hb'; clear Fo54; have Fo54 := Lib.hid rFo54; clear rFo54
      have rFo60 := Fo60.out.below hb'; clear Fo60; have Fo60 := Lib.hid rFo60; clear rFo60
      have rFo61 := Fo61.out.below hb'; clear Fo61; have Fo61 := Lib.hid rFo61; clear rFo61
      have rFo70 := Fo70.out.below hb'; clear Fo70; have Fo70 := Lib.hid rFo70; clear rFo70
      have rFo79 := Fo79.out.below hb'; clear Fo79; have Fo79 := Lib.hid rFo79; clear rFo79
      have rFo121 := Fo121.out.below hb'; clear Fo121; have Fo121 := Lib.hid rFo121; clear rFo121
      have rB := below_chain B.out (by omega) hb'; clear B; have B := Lib.hid rB; clear rB
      clear hb hb'
      go_wp2_with fail
      refine (heldConfig_c _ _ _ _ _ _ _ _ _ _ _ (by exact (Fo70.out.rd)) (by omega) (by omega) (by omega) (by omega)).mono ?_
      rintro e w23 ⟨rfl, hb⟩
      have hb' : Below w22.heap.size w22 w23 := (by first | (with_reducible exact hb) | (with_reducible exact up1 hb) | (with_reducible exact up2 hb) | (with_reducible exact up3 hb) | (with_reducible exact up4 hb) | (with_reducible exact below_of_drew hb) | (with_reducible exact below_of_drew (up1 hb)))
      have z23 := hb'.size
      have c23_a0_0 : w23.cell? ⟨w.heap.size, 0, none⟩ = some (.int .i64 sy0) := keepc hb' c22_a0_0
      clear c22_a0_0 ac22_a0_0
      have c23_a0_1 : w23.cell? ⟨w.heap.size, 1, none⟩ = some (.int .i64 st0) := keepc hb' c22_a0_1
      clear c22_a0_1 ac22_a0_1
      have c23_a0_2 : w23.cell? ⟨w.heap.size, 2, none⟩ = some (.slice A0 n0 c0) := keepc hb' c22_a0_2
      clear c22_a0_2 ac22_a0_2
      have c23_a1_0 : w23.cell? ⟨(w.heap.size + 1), 0, none⟩ = some (.int .i64 st1) := keepc hb' c22_a1_0
      clear c22_a1_0 ac22_a1_0
      have c23_a1_1 : w23.cell? ⟨(w.heap.size + 1), 1, none⟩ = some (.int .i64 hd1) := keepc hb' c22_a1_1
      clear c22_a1_1 ac22_a1_1
      have c23_a1_2 : w23.cell? ⟨(w.heap.size + 1), 2, none⟩ = some (.int .i64 at1) := keepc hb' c22_a1_2
      clear c22_a1_2 ac22_a1_2
      have c23_a1_3 : w23.cell? ⟨(w.heap.size + 1), 3, none⟩ = some (.slice A1 n1 c1) := keepc hb' c22_a1_3
      clear c22_a1_3 ac22_a1_3
      have c23_a1_4 : w23.cell? ⟨(w.heap.size + 1), 4, none⟩ = some (.slice B1 m1 d1) := keepc hb' c22_a1_4
      clear c22_a1_4 ac22_a1_4
      have c23_a1_5 : w23.cell? ⟨(w.heap.size + 1), 5, none⟩ = some (.slice C1 k1 e1) := keepc hb' c22_a1_5
      clear c22_a1_5 ac22_a1_5
      have c23_o52_0 : w23.cell? ⟨g17, 0, none⟩ = some (.int .i64 (fatR sy0 st0 xs0 st1 hd1 at1 (its1.map It.xs) (jts1.map It.xs) xs1 xs2).1.1) := keepc hb' c22_o52_0
      clear c22_o52_0 ac22_o52_0
      have c23_o52_1 : w23.cell? ⟨g17, 1, none⟩ = some (.slice A11 n12 c13) := keepc hb' c22_o52_1
      clear c22_o52_1 ac22_o52_1
      have c23_o52_2 : w23.cell? ⟨g17, 2, none⟩ = some (.slice B14 m15 d16) := keepc hb' c22_o52_2
      clear c22_o52_2 ac22_o52_2
      have c23_o54_0 : w23.cell? ⟨w4.heap.size, 0, none⟩ = some (.int .i64 sy0) := keepc hb' c22_o54_0
      clear c22_o54_0 ac22_o54_0
      have c23_o54_1 : w23.cell? ⟨w4.heap.size, 1, none⟩ = some (.int .i64 st0) := keepc hb' c22_o54_1
      clear c22_o54_1 ac22_o54_1
      have c23_o54_2 : w23.cell? ⟨w4.heap.size, 2, none⟩ = some (.slice (some ⟨g053, 0, none⟩) n0 n0) := keepc hb' c22_o54_2
      clear c22_o54_2 ac22_o54_2
      have c23_o60_0 : w23.cell? ⟨w5.heap.size, 0, none⟩ = some (.int .i64 st1) := keepc hb' c22_o60_0
      clear c22_o60_0 ac22_o60_0
      have c23_o60_1 : w23.cell? ⟨w5.heap.size, 1, none⟩ = some (.int .i64 hd1) := keepc hb' c22_o60_1
      clear c22_o60_1 ac22_o60_1
      have c23_o60_2 : w23.cell? ⟨w5.heap.size, 2, none⟩ = some (.int .i64 at1) := keepc hb' c22_o60_2
      clear c22_o60_2 ac22_o60_2
      have c23_o60_3 : w23.cell? ⟨w5.heap.size, 3, none⟩ = some (.slice (some ⟨g055, 0, none⟩) n1 n1) := keepc hb' c22_o60_3
      clear c22_o60_3 ac22_o60_3
      have c23_o60_4 : w23.cell? ⟨w5.heap.size, 4, none⟩ = some (.slice (some ⟨g157, 0, none⟩) m1 m1) := keepc hb' c22_o60_4
      clear c22_o60_4 ac22_o60_4
      have c23_o60_5 : w23.cell? ⟨w5.heap.size, 5, none⟩ = some (.slice (some ⟨g259, 0, none⟩) k1 k1) := keepc hb' c22_o60_5
      clear c22_o60_5 ac22_o60_5
      have c23_o70_0 : w23.cell? ⟨w7.heap.size, 0, none⟩ = some (.int .i64 (fatR sy0 st0 xs0 st1 hd1 at1 (its1.map It.xs) (jts1.map It.xs) xs1 xs2).1.1) := keepc hb' c22_o70_0
      clear c22_o70_0 ac22_o70_0
      have c23_o70_1 : w23.cell? ⟨w7.heap.size, 1, none⟩ = some (.slice A62 n63 c64) := keepc hb' c22_o70_1
      clear c22_o70_1 ac22_o70_1
      have c23_o70_2 : w23.cell? ⟨w7.heap.size, 2, none⟩ = some (.slice B65 m66 d67) := keepc hb' c22_o70_2
      clear c22_o70_2 ac22_o70_2
      have c23_o121_0 : w23.cell? ⟨g86, 0, none⟩ = some (.int .i64 (fatR sy0 st0 xs0 st1 hd1 at1 (its1.map It.xs) (jts1.map It.xs) xs1 xs2).1.1) := keepc hb' c22_o121_0
      clear c22_o121_0 ac22_o121_0
      have c23_o121_1 : w23.cell? ⟨g86, 1, none⟩ = some (.slice A80 n81 c82) := keepc hb' c22_o121_1
      clear c22_o121_1 ac22_o121_1
      have c23_o121_2 : w23.cell? ⟨g86, 2, none⟩ = some (.slice B83 m84 d85) := keepc hb' c22_o121_2
      clear c22_o121_2 ac22_o121_2
      have ac23_a0_0 := fun o => keepa o c23_a0_0
      have ac23_a0_1 := fun o => keepa o c23_a0_1
      have ac23_a0_2 := fun o => keepa o c23_a0_2
      have ac23_a1_0 := fun o => keepa o c23_a1_0
      have ac23_a1_1 := fun o => keepa o c23_a1_1
      have ac23_a1_2 := fun o => keepa o c23_a1_2
      have ac23_a1_3 := fun o => keepa o c23_a1_3
      have ac23_a1_4 := fun o => keepa o c23_a1_4
      have ac23_a1_5 := fun o => keepa o c23_a1_5
      have ac23_o52_0 := fun o => keepa o c23_o52_0
      have ac23_o52_1 := fun o => keepa o c23_o52_1
      have ac23_o52_2 := fun o => keepa o c23_o52_2
      have ac23_o54_0 := fun o => keepa o c23_o54_0
      have ac23_o54_1 := fun o => keepa o c23_o54_1
      have ac23_o54_2 := fun o => keepa o c23_o54_2
      have ac23_o60_0 := fun o => keepa o c23_o60_0
      have ac23_o60_1 := fun o => keepa o c23_o60_1
      have ac23_o60_2 := fun o => keepa o c23_o60_2
      have ac23_o60_3 := fun o => keepa o c23_o60_3
      have ac23_o60_4 := fun o => keepa o c23_o60_4
      have ac23_o60_5 := fun o => keepa o c23_o60_5
      have ac23_o70_0 := fun o => keepa o c23_o70_0
      have ac23_o70_1 := fun o => keepa o c23_o70_1
      have ac23_o70_2 := fun o => keepa o c23_o70_2
      have ac23_o121_0 := fun o => keepa o c23_o121_0
      have ac23_o121_1 := fun o => keepa o c23_o121_1
      have ac23_o121_2 := fun o => keepa o c23_o121_2
      have rP0 := P0.out.below hb'; clear P0; have P0 := Lib.hid rP0; clear rP0
      have rP1 := P1.out.below hb'; clear P1; have P1 := Lib.hid rP1; clear rP1
      have rP2 := P2.out.below hb'; clear P2; have P2 := Lib.hid rP2; clear rP2
      have rFo52 := Fo52.out.below hb'; clear Fo52; have Fo52 := Lib.hid rFo52; clear rFo52
      have rFo54 := Fo54.out.below hb'; clear Fo54; have Fo54 := Lib.hid rFo54; clear rFo54
      have rFo60 := Fo60.out.below hb'; clear Fo60; have Fo60 := Lib.hid rFo60; clear rFo60
      have rFo61 := Fo61.out.below hb'; clear Fo61; have Fo61 := Lib.hid rFo61; clear rFo61
      have rFo70 := Fo70.out.below hb'; clear Fo70; have Fo70 := Lib.hid rFo70; clear rFo70
      have rFo79 := Fo79.out.below hb'; clear Fo79; have Fo79 := Lib.hid rFo79; clear rFo79
      have rFo121 := Fo121.out.below hb'; clear Fo121; have Fo121 := Lib.hid rFo121; clear rFo121
      have rB := below_chain B.out (by omega) hb'; clear B; have B := Lib.hid rB; clear rB
      clear hb hb'
      go_wp2
      go_ret
      exact ⟨rfl, B.out⟩
end Go.Proofs.Ytmmgejnhfpfmnaa
