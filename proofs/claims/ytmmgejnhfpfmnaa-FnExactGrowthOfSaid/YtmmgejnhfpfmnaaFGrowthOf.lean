/-
  FnExactGrowthOf returns true for every input: its walk, out of the contracts.
-/
import Derived.Test.YtmmgejnhfpfmnaaLawMachine
import Derived.Test.YtmmgejnhfpfmnaaLawFormula
import Derived.Test.YtmmgejnhfpfmnaaLawI
import Derived.Test.YtmmgejnhfpfmnaaNfP
import Derived.Test.YtmmgejnhfpfmnaaMixF
import Derived.Test.YtmmgejnhfpfmnaaOpen
import Derived.Deep.DeepCutAuto
namespace Go.Proofs.Ytmmgejnhfpfmnaa
open Go.RowKit

set_option maxHeartbeats 4000000 in
set_option maxRecDepth 100000 in
theorem walkGrowthOf (sy0 : Int) (st0 : Int) (A0 : Option Addr) (n0 : Nat) (c0 : Nat) (xs0 : List (Int × Int × Int)) (st1 : Int) (hd1 : Int) (at1 : Int) (A1 : Option Addr) (n1 : Nat) (c1 : Nat) (its1 : List It) (B1 : Option Addr) (m1 : Nat) (d1 : Nat) (jts1 : List It) (C1 : Option Addr) (k1 : Nat) (e1 : Nat) (xs1 : List Int) (st2 : Int) (hd2 : Int) (at2 : Int) (A2 : Option Addr) (n2 : Nat) (c2 : Nat) (its2 : List It) (B2 : Option Addr) (m2 : Nat) (d2 : Nat) (jts2 : List It) (C2 : Option Addr) (k2 : Nat) (e2 : Nat) (xs2 : List Int) (w : World) (h0 : RdS w [sgX enc3 3 A0 n0 xs0]) (hb0_0 : n0 ≤ 9223372036854775807) (_o0 : i64ok sy0) (_p0 : i64ok st0) (_oo0 : ∀ x ∈ xs0, i64ok x.1 ∧ i64ok x.2.1 ∧ i64ok x.2.2) (h1 : RdS w (sgII A1 n1 its1 ++ sgII B1 m1 jts1 ++ [sgI C1 k1 xs1])) (hb1_0 : n1 ≤ 9223372036854775807) (hb1_1 : m1 ≤ 9223372036854775807) (hb1_2 : k1 ≤ 9223372036854775807) (hj1_0 : ∀ t ∈ its1, t.n ≤ 9223372036854775807) (hj1_1 : ∀ t ∈ jts1, t.n ≤ 9223372036854775807) (_o1 : i64ok st1) (_p1 : i64ok hd1) (_q1 : i64ok at1) (_oo1 : ∀ x ∈ xs1, i64ok x) (h2 : RdS w (sgII A2 n2 its2 ++ sgII B2 m2 jts2 ++ [sgI C2 k2 xs2])) (hb2_0 : n2 ≤ 9223372036854775807) (hb2_1 : m2 ≤ 9223372036854775807) (hb2_2 : k2 ≤ 9223372036854775807) (hj2_0 : ∀ t ∈ its2, t.n ≤ 9223372036854775807) (hj2_1 : ∀ t ∈ jts2, t.n ≤ 9223372036854775807) (_o2 : i64ok st2) (_p2 : i64ok hd2) (_q2 : i64ok at2) (_oo2 : ∀ x ∈ xs2, i64ok x) :
    Calls Try.prog 7 #[.agg #[.int .i64 sy0, .int .i64 st0, .slice A0 n0 c0], .agg #[.int .i64 st1, .int .i64 hd1, .int .i64 at1, .slice A1 n1 c1, .slice B1 m1 d1, .slice C1 k1 e1], .agg #[.int .i64 st2, .int .i64 hd2, .int .i64 at2, .slice A2 n2 c2, .slice B2 m2 d2, .slice C2 k2 e2]] w fun e w' => e = .returned (.bool true) ∧ Below w.heap.size w w' := by
  have P0 := Lib.hid (RdSU.mk' h0); clear h0
  have P1 := Lib.hid (RdSU.mk' h1); clear h1
  have P2 := Lib.hid (RdSU.mk' h2); clear h2
  obtain ⟨RR, hRR⟩ : ∃ RR, grR sy0 st0 xs0 st1 hd1 at1 (its1.map It.xs) (jts1.map It.xs) xs1 st2 hd2 at2 (its2.map It.xs) (jts2.map It.xs) xs2 = RR := ⟨_, rfl⟩; have HRR := Lib.hid hRR; clear hRR
  go_enter Try.func7, Try.ntmps7
  go_wp2_with fail
  refine (szMachine_c _ _ _ _ _ xs0 _ _ hb0_0 (by omega) (by omega)).mono ?_
  rintro e w1 ⟨rfl, hb⟩
  have hb' : Below w.heap.size w w1 := (by first | (with_reducible exact hb) | (with_reducible exact up1 hb) | (with_reducible exact up2 hb) | (with_reducible exact up3 hb) | (with_reducible exact up4 hb) | (with_reducible exact below_of_drew hb) | (with_reducible exact below_of_drew (up1 hb)))
  have z1 := hb'.size
  have c1_a0_0 : w1.cell? ⟨w.heap.size, 0, none⟩ = some (.int .i64 sy0) := keepc hb (by first | (simp; done) | (rw [World.cell?_alloc_past _ _ _ (by simp <;> omega)]; simp; done) | (rw [World.cell?_alloc_past _ _ _ (by simp <;> omega), World.cell?_alloc_past _ _ _ (by simp <;> omega)]; simp; done) | (rw [World.cell?_alloc_past _ _ _ (by simp <;> omega), World.cell?_alloc_past _ _ _ (by simp <;> omega), World.cell?_alloc_past _ _ _ (by simp <;> omega)]; simp; done) | (rw [World.cell?_alloc_at _ _ _ _ (by simp)]; simp; done) | (rw [World.cell?_alloc_past _ _ _ (by simp <;> omega), World.cell?_alloc_at _ _ _ _ (by simp)]; simp; done) | (rw [World.cell?_alloc_past _ _ _ (by simp <;> omega), World.cell?_alloc_past _ _ _ (by simp <;> omega), World.cell?_alloc_at _ _ _ _ (by simp)]; simp; done) | (rw [World.cell?_alloc_past _ _ _ (by simp <;> omega), World.cell?_alloc_past _ _ _ (by simp <;> omega), World.cell?_alloc_past _ _ _ (by simp <;> omega), World.cell?_alloc_at _ _ _ _ (by simp)]; simp; done))
  have hl_c1_a0_0 : w.heap.size < w1.heap.size := World.block_lt_of_cell? w1 _ c1_a0_0
  have c1_a0_1 : w1.cell? ⟨w.heap.size, 1, none⟩ = some (.int .i64 st0) := keepc hb (by first | (simp; done) | (rw [World.cell?_alloc_past _ _ _ (by simp <;> omega)]; simp; done) | (rw [World.cell?_alloc_past _ _ _ (by simp <;> omega), World.cell?_alloc_past _ _ _ (by simp <;> omega)]; simp; done) | (rw [World.cell?_alloc_past _ _ _ (by simp <;> omega), World.cell?_alloc_past _ _ _ (by simp <;> omega), World.cell?_alloc_past _ _ _ (by simp <;> omega)]; simp; done) | (rw [World.cell?_alloc_at _ _ _ _ (by simp)]; simp; done) | (rw [World.cell?_alloc_past _ _ _ (by simp <;> omega), World.cell?_alloc_at _ _ _ _ (by simp)]; simp; done) | (rw [World.cell?_alloc_past _ _ _ (by simp <;> omega), World.cell?_alloc_past _ _ _ (by simp <;> omega), World.cell?_alloc_at _ _ _ _ (by simp)]; simp; done) | (rw [World.cell?_alloc_past _ _ _ (by simp <;> omega), World.cell?_alloc_past _ _ _ (by simp <;> omega), World.cell?_alloc_past _ _ _ (by simp <;> omega), World.cell?_alloc_at _ _ _ _ (by simp)]; simp; done))
  have c1_a0_2 : w1.cell? ⟨w.heap.size, 2, none⟩ = some (.slice A0 n0 c0) := keepc hb (by first | (simp; done) | (rw [World.cell?_alloc_past _ _ _ (by simp <;> omega)]; simp; done) | (rw [World.cell?_alloc_past _ _ _ (by simp <;> omega), World.cell?_alloc_past _ _ _ (by simp <;> omega)]; simp; done) | (rw [World.cell?_alloc_past _ _ _ (by simp <;> omega), World.cell?_alloc_past _ _ _ (by simp <;> omega), World.cell?_alloc_past _ _ _ (by simp <;> omega)]; simp; done) | (rw [World.cell?_alloc_at _ _ _ _ (by simp)]; simp; done) | (rw [World.cell?_alloc_past _ _ _ (by simp <;> omega), World.cell?_alloc_at _ _ _ _ (by simp)]; simp; done) | (rw [World.cell?_alloc_past _ _ _ (by simp <;> omega), World.cell?_alloc_past _ _ _ (by simp <;> omega), World.cell?_alloc_at _ _ _ _ (by simp)]; simp; done) | (rw [World.cell?_alloc_past _ _ _ (by simp <;> omega), World.cell?_alloc_past _ _ _ (by simp <;> omega), World.cell?_alloc_past _ _ _ (by simp <;> omega), World.cell?_alloc_at _ _ _ _ (by simp)]; simp; done))
  have c1_a1_0 : w1.cell? ⟨(w.heap.size + 1), 0, none⟩ = some (.int .i64 st1) := keepc hb (by first | (simp; done) | (rw [World.cell?_alloc_past _ _ _ (by simp <;> omega)]; simp; done) | (rw [World.cell?_alloc_past _ _ _ (by simp <;> omega), World.cell?_alloc_past _ _ _ (by simp <;> omega)]; simp; done) | (rw [World.cell?_alloc_past _ _ _ (by simp <;> omega), World.cell?_alloc_past _ _ _ (by simp <;> omega), World.cell?_alloc_past _ _ _ (by simp <;> omega)]; simp; done) | (rw [World.cell?_alloc_at _ _ _ _ (by simp)]; simp; done) | (rw [World.cell?_alloc_past _ _ _ (by simp <;> omega), World.cell?_alloc_at _ _ _ _ (by simp)]; simp; done) | (rw [World.cell?_alloc_past _ _ _ (by simp <;> omega), World.cell?_alloc_past _ _ _ (by simp <;> omega), World.cell?_alloc_at _ _ _ _ (by simp)]; simp; done) | (rw [World.cell?_alloc_past _ _ _ (by simp <;> omega), World.cell?_alloc_past _ _ _ (by simp <;> omega), World.cell?_alloc_past _ _ _ (by simp <;> omega), World.cell?_alloc_at _ _ _ _ (by simp)]; simp; done))
  have hl_c1_a1_0 : (w.heap.size + 1) < w1.heap.size := World.block_lt_of_cell? w1 _ c1_a1_0
  have c1_a1_1 : w1.cell? ⟨(w.heap.size + 1), 1, none⟩ = some (.int .i64 hd1) := keepc hb (by first | (simp; done) | (rw [World.cell?_alloc_past _ _ _ (by simp <;> omega)]; simp; done) | (rw [World.cell?_alloc_past _ _ _ (by simp <;> omega), World.cell?_alloc_past _ _ _ (by simp <;> omega)]; simp; done) | (rw [World.cell?_alloc_past _ _ _ (by simp <;> omega), World.cell?_alloc_past _ _ _ (by simp <;> omega), World.cell?_alloc_past _ _ _ (by simp <;> omega)]; simp; done) | (rw [World.cell?_alloc_at _ _ _ _ (by simp)]; simp; done) | (rw [World.cell?_alloc_past _ _ _ (by simp <;> omega), World.cell?_alloc_at _ _ _ _ (by simp)]; simp; done) | (rw [World.cell?_alloc_past _ _ _ (by simp <;> omega), World.cell?_alloc_past _ _ _ (by simp <;> omega), World.cell?_alloc_at _ _ _ _ (by simp)]; simp; done) | (rw [World.cell?_alloc_past _ _ _ (by simp <;> omega), World.cell?_alloc_past _ _ _ (by simp <;> omega), World.cell?_alloc_past _ _ _ (by simp <;> omega), World.cell?_alloc_at _ _ _ _ (by simp)]; simp; done))
  have c1_a1_2 : w1.cell? ⟨(w.heap.size + 1), 2, none⟩ = some (.int .i64 at1) := keepc hb (by first | (simp; done) | (rw [World.cell?_alloc_past _ _ _ (by simp <;> omega)]; simp; done) | (rw [World.cell?_alloc_past _ _ _ (by simp <;> omega), World.cell?_alloc_past _ _ _ (by simp <;> omega)]; simp; done) | (rw [World.cell?_alloc_past _ _ _ (by simp <;> omega), World.cell?_alloc_past _ _ _ (by simp <;> omega), World.cell?_alloc_past _ _ _ (by simp <;> omega)]; simp; done) | (rw [World.cell?_alloc_at _ _ _ _ (by simp)]; simp; done) | (rw [World.cell?_alloc_past _ _ _ (by simp <;> omega), World.cell?_alloc_at _ _ _ _ (by simp)]; simp; done) | (rw [World.cell?_alloc_past _ _ _ (by simp <;> omega), World.cell?_alloc_past _ _ _ (by simp <;> omega), World.cell?_alloc_at _ _ _ _ (by simp)]; simp; done) | (rw [World.cell?_alloc_past _ _ _ (by simp <;> omega), World.cell?_alloc_past _ _ _ (by simp <;> omega), World.cell?_alloc_past _ _ _ (by simp <;> omega), World.cell?_alloc_at _ _ _ _ (by simp)]; simp; done))
  have c1_a1_3 : w1.cell? ⟨(w.heap.size + 1), 3, none⟩ = some (.slice A1 n1 c1) := keepc hb (by first | (simp; done) | (rw [World.cell?_alloc_past _ _ _ (by simp <;> omega)]; simp; done) | (rw [World.cell?_alloc_past _ _ _ (by simp <;> omega), World.cell?_alloc_past _ _ _ (by simp <;> omega)]; simp; done) | (rw [World.cell?_alloc_past _ _ _ (by simp <;> omega), World.cell?_alloc_past _ _ _ (by simp <;> omega), World.cell?_alloc_past _ _ _ (by simp <;> omega)]; simp; done) | (rw [World.cell?_alloc_at _ _ _ _ (by simp)]; simp; done) | (rw [World.cell?_alloc_past _ _ _ (by simp <;> omega), World.cell?_alloc_at _ _ _ _ (by simp)]; simp; done) | (rw [World.cell?_alloc_past _ _ _ (by simp <;> omega), World.cell?_alloc_past _ _ _ (by simp <;> omega), World.cell?_alloc_at _ _ _ _ (by simp)]; simp; done) | (rw [World.cell?_alloc_past _ _ _ (by simp <;> omega), World.cell?_alloc_past _ _ _ (by simp <;> omega), World.cell?_alloc_past _ _ _ (by simp <;> omega), World.cell?_alloc_at _ _ _ _ (by simp)]; simp; done))
  have c1_a1_4 : w1.cell? ⟨(w.heap.size + 1), 4, none⟩ = some (.slice B1 m1 d1) := keepc hb (by first | (simp; done) | (rw [World.cell?_alloc_past _ _ _ (by simp <;> omega)]; simp; done) | (rw [World.cell?_alloc_past _ _ _ (by simp <;> omega), World.cell?_alloc_past _ _ _ (by simp <;> omega)]; simp; done) | (rw [World.cell?_alloc_past _ _ _ (by simp <;> omega), World.cell?_alloc_past _ _ _ (by simp <;> omega), World.cell?_alloc_past _ _ _ (by simp <;> omega)]; simp; done) | (rw [World.cell?_alloc_at _ _ _ _ (by simp)]; simp; done) | (rw [World.cell?_alloc_past _ _ _ (by simp <;> omega), World.cell?_alloc_at _ _ _ _ (by simp)]; simp; done) | (rw [World.cell?_alloc_past _ _ _ (by simp <;> omega), World.cell?_alloc_past _ _ _ (by simp <;> omega), World.cell?_alloc_at _ _ _ _ (by simp)]; simp; done) | (rw [World.cell?_alloc_past _ _ _ (by simp <;> omega), World.cell?_alloc_past _ _ _ (by simp <;> omega), World.cell?_alloc_past _ _ _ (by simp <;> omega), World.cell?_alloc_at _ _ _ _ (by simp)]; simp; done))
  have c1_a1_5 : w1.cell? ⟨(w.heap.size + 1), 5, none⟩ = some (.slice C1 k1 e1) := keepc hb (by first | (simp; done) | (rw [World.cell?_alloc_past _ _ _ (by simp <;> omega)]; simp; done) | (rw [World.cell?_alloc_past _ _ _ (by simp <;> omega), World.cell?_alloc_past _ _ _ (by simp <;> omega)]; simp; done) | (rw [World.cell?_alloc_past _ _ _ (by simp <;> omega), World.cell?_alloc_past _ _ _ (by simp <;> omega), World.cell?_alloc_past _ _ _ (by simp <;> omega)]; simp; done) | (rw [World.cell?_alloc_at _ _ _ _ (by simp)]; simp; done) | (rw [World.cell?_alloc_past _ _ _ (by simp <;> omega), World.cell?_alloc_at _ _ _ _ (by simp)]; simp; done) | (rw [World.cell?_alloc_past _ _ _ (by simp <;> omega), World.cell?_alloc_past _ _ _ (by simp <;> omega), World.cell?_alloc_at _ _ _ _ (by simp)]; simp; done) | (rw [World.cell?_alloc_past _ _ _ (by simp <;> omega), World.cell?_alloc_past _ _ _ (by simp <;> omega), World.cell?_alloc_past _ _ _ (by simp <;> omega), World.cell?_alloc_at _ _ _ _ (by simp)]; simp; done))
  have c1_a2_0 : w1.cell? ⟨(w.heap.size + 1 + 1), 0, none⟩ = some (.int .i64 st2) := keepc hb (by first | (simp; done) | (rw [World.cell?_alloc_past _ _ _ (by simp <;> omega)]; simp; done) | (rw [World.cell?_alloc_past _ _ _ (by simp <;> omega), World.cell?_alloc_past _ _ _ (by simp <;> omega)]; simp; done) | (rw [World.cell?_alloc_past _ _ _ (by simp <;> omega), World.cell?_alloc_past _ _ _ (by simp <;> omega), World.cell?_alloc_past _ _ _ (by simp <;> omega)]; simp; done) | (rw [World.cell?_alloc_at _ _ _ _ (by simp)]; simp; done) | (rw [World.cell?_alloc_past _ _ _ (by simp <;> omega), World.cell?_alloc_at _ _ _ _ (by simp)]; simp; done) | (rw [World.cell?_alloc_past _ _ _ (by simp <;> omega), World.cell?_alloc_past _ _ _ (by simp <;> omega), World.cell?_alloc_at _ _ _ _ (by simp)]; simp; done) | (rw [World.cell?_alloc_past _ _ _ (by simp <;> omega), World.cell?_alloc_past _ _ _ (by simp <;> omega), World.cell?_alloc_past _ _ _ (by simp <;> omega), World.cell?_alloc_at _ _ _ _ (by simp)]; simp; done))
  have hl_c1_a2_0 : (w.heap.size + 1 + 1) < w1.heap.size := World.block_lt_of_cell? w1 _ c1_a2_0
  have c1_a2_1 : w1.cell? ⟨(w.heap.size + 1 + 1), 1, none⟩ = some (.int .i64 hd2) := keepc hb (by first | (simp; done) | (rw [World.cell?_alloc_past _ _ _ (by simp <;> omega)]; simp; done) | (rw [World.cell?_alloc_past _ _ _ (by simp <;> omega), World.cell?_alloc_past _ _ _ (by simp <;> omega)]; simp; done) | (rw [World.cell?_alloc_past _ _ _ (by simp <;> omega), World.cell?_alloc_past _ _ _ (by simp <;> omega), World.cell?_alloc_past _ _ _ (by simp <;> omega)]; simp; done) | (rw [World.cell?_alloc_at _ _ _ _ (by simp)]; simp; done) | (rw [World.cell?_alloc_past _ _ _ (by simp <;> omega), World.cell?_alloc_at _ _ _ _ (by simp)]; simp; done) | (rw [World.cell?_alloc_past _ _ _ (by simp <;> omega), World.cell?_alloc_past _ _ _ (by simp <;> omega), World.cell?_alloc_at _ _ _ _ (by simp)]; simp; done) | (rw [World.cell?_alloc_past _ _ _ (by simp <;> omega), World.cell?_alloc_past _ _ _ (by simp <;> omega), World.cell?_alloc_past _ _ _ (by simp <;> omega), World.cell?_alloc_at _ _ _ _ (by simp)]; simp; done))
  have c1_a2_2 : w1.cell? ⟨(w.heap.size + 1 + 1), 2, none⟩ = some (.int .i64 at2) := keepc hb (by first | (simp; done) | (rw [World.cell?_alloc_past _ _ _ (by simp <;> omega)]; simp; done) | (rw [World.cell?_alloc_past _ _ _ (by simp <;> omega), World.cell?_alloc_past _ _ _ (by simp <;> omega)]; simp; done) | (rw [World.cell?_alloc_past _ _ _ (by simp <;> omega), World.cell?_alloc_past _ _ _ (by simp <;> omega), World.cell?_alloc_past _ _ _ (by simp <;> omega)]; simp; done) | (rw [World.cell?_alloc_at _ _ _ _ (by simp)]; simp; done) | (rw [World.cell?_alloc_past _ _ _ (by simp <;> omega), World.cell?_alloc_at _ _ _ _ (by simp)]; simp; done) | (rw [World.cell?_alloc_past _ _ _ (by simp <;> omega), World.cell?_alloc_past _ _ _ (by simp <;> omega), World.cell?_alloc_at _ _ _ _ (by simp)]; simp; done) | (rw [World.cell?_alloc_past _ _ _ (by simp <;> omega), World.cell?_alloc_past _ _ _ (by simp <;> omega), World.cell?_alloc_past _ _ _ (by simp <;> omega), World.cell?_alloc_at _ _ _ _ (by simp)]; simp; done))
  have c1_a2_3 : w1.cell? ⟨(w.heap.size + 1 + 1), 3, none⟩ = some (.slice A2 n2 c2) := keepc hb (by first | (simp; done) | (rw [World.cell?_alloc_past _ _ _ (by simp <;> omega)]; simp; done) | (rw [World.cell?_alloc_past _ _ _ (by simp <;> omega), World.cell?_alloc_past _ _ _ (by simp <;> omega)]; simp; done) | (rw [World.cell?_alloc_past _ _ _ (by simp <;> omega), World.cell?_alloc_past _ _ _ (by simp <;> omega), World.cell?_alloc_past _ _ _ (by simp <;> omega)]; simp; done) | (rw [World.cell?_alloc_at _ _ _ _ (by simp)]; simp; done) | (rw [World.cell?_alloc_past _ _ _ (by simp <;> omega), World.cell?_alloc_at _ _ _ _ (by simp)]; simp; done) | (rw [World.cell?_alloc_past _ _ _ (by simp <;> omega), World.cell?_alloc_past _ _ _ (by simp <;> omega), World.cell?_alloc_at _ _ _ _ (by simp)]; simp; done) | (rw [World.cell?_alloc_past _ _ _ (by simp <;> omega), World.cell?_alloc_past _ _ _ (by simp <;> omega), World.cell?_alloc_past _ _ _ (by simp <;> omega), World.cell?_alloc_at _ _ _ _ (by simp)]; simp; done))
  have c1_a2_4 : w1.cell? ⟨(w.heap.size + 1 + 1), 4, none⟩ = some (.slice B2 m2 d2) := keepc hb (by first | (simp; done) | (rw [World.cell?_alloc_past _ _ _ (by simp <;> omega)]; simp; done) | (rw [World.cell?_alloc_past _ _ _ (by simp <;> omega), World.cell?_alloc_past _ _ _ (by simp <;> omega)]; simp; done) | (rw [World.cell?_alloc_past _ _ _ (by simp <;> omega), World.cell?_alloc_past _ _ _ (by simp <;> omega), World.cell?_alloc_past _ _ _ (by simp <;> omega)]; simp; done) | (rw [World.cell?_alloc_at _ _ _ _ (by simp)]; simp; done) | (rw [World.cell?_alloc_past _ _ _ (by simp <;> omega), World.cell?_alloc_at _ _ _ _ (by simp)]; simp; done) | (rw [World.cell?_alloc_past _ _ _ (by simp <;> omega), World.cell?_alloc_past _ _ _ (by simp <;> omega), World.cell?_alloc_at _ _ _ _ (by simp)]; simp; done) | (rw [World.cell?_alloc_past _ _ _ (by simp <;> omega), World.cell?_alloc_past _ _ _ (by simp <;> omega), World.cell?_alloc_past _ _ _ (by simp <;> omega), World.cell?_alloc_at _ _ _ _ (by simp)]; simp; done))
  have c1_a2_5 : w1.cell? ⟨(w.heap.size + 1 + 1), 5, none⟩ = some (.slice C2 k2 e2) := keepc hb (by first | (simp; done) | (rw [World.cell?_alloc_past _ _ _ (by simp <;> omega)]; simp; done) | (rw [World.cell?_alloc_past _ _ _ (by simp <;> omega), World.cell?_alloc_past _ _ _ (by simp <;> omega)]; simp; done) | (rw [World.cell?_alloc_past _ _ _ (by simp <;> omega), World.cell?_alloc_past _ _ _ (by simp <;> omega), World.cell?_alloc_past _ _ _ (by simp <;> omega)]; simp; done) | (rw [World.cell?_alloc_at _ _ _ _ (by simp)]; simp; done) | (rw [World.cell?_alloc_past _ _ _ (by simp <;> omega), World.cell?_alloc_at _ _ _ _ (by simp)]; simp; done) | (rw [World.cell?_alloc_past _ _ _ (by simp <;> omega), World.cell?_alloc_past _ _ _ (by simp <;> omega), World.cell?_alloc_at _ _ _ _ (by simp)]; simp; done) | (rw [World.cell?_alloc_past _ _ _ (by simp <;> omega), World.cell?_alloc_past _ _ _ (by simp <;> omega), World.cell?_alloc_past _ _ _ (by simp <;> omega), World.cell?_alloc_at _ _ _ _ (by simp)]; simp; done))
  have ac1_a0_0 := fun o => keepa o c1_a0_0
  have ac1_a0_1 := fun o => keepa o c1_a0_1
  have ac1_a0_2 := fun o => keepa o c1_a0_2
  have ac1_a1_0 := fun o => keepa o c1_a1_0
  have ac1_a1_1 := fun o => keepa o c1_a1_1
  have ac1_a1_2 := fun o => keepa o c1_a1_2
  have ac1_a1_3 := fun o => keepa o c1_a1_3
  have ac1_a1_4 := fun o => keepa o c1_a1_4
  have ac1_a1_5 := fun o => keepa o c1_a1_5
  have ac1_a2_0 := fun o => keepa o c1_a2_0
  have ac1_a2_1 := fun o => keepa o c1_a2_1
  have ac1_a2_2 := fun o => keepa o c1_a2_2
  have ac1_a2_3 := fun o => keepa o c1_a2_3
  have ac1_a2_4 := fun o => keepa o c1_a2_4
  have ac1_a2_5 := fun o => keepa o c1_a2_5
  have rP0 := P0.out.below hb'; clear P0; have P0 := Lib.hid rP0; clear rP0
  have rP1 := P1.out.below hb'; clear P1; have P1 := Lib.hid rP1; clear rP1
  have rP2 := P2.out.below hb'; clear P2; have P2 := Lib.hid rP2; clear rP2
  have rB := hb'; have B := Lib.hid rB; clear rB
  clear hb hb'
  by_cases hs1 : 1048576 < n0
  · rw [szOf_neg' (by omega)]
    go_wp2
    go_ret
    exact ⟨rfl, B.out⟩
  rw [szOf_pos' (by omega)]
  have hs1' : (0 : Int) ≤ 1048576 - (n0 : Nat) := by omega
  go_wp2_with fail
  refine (szFormula_c _ _ _ _ _ _ its1 _ _ _ jts1 _ _ _ xs1 _ _ (by exact (P1.out.rd)) hb1_0 hb1_1 hb1_2 hj1_0 hj1_1 (by omega) (by omega)).mono ?_
  rintro e w2 ⟨rfl, hb⟩
  have hb' : Below w1.heap.size w1 w2 := (by first | (with_reducible exact hb) | (with_reducible exact up1 hb) | (with_reducible exact up2 hb) | (with_reducible exact up3 hb) | (with_reducible exact up4 hb) | (with_reducible exact below_of_drew hb) | (with_reducible exact below_of_drew (up1 hb)))
  have z2 := hb'.size
  have c2_a0_0 : w2.cell? ⟨w.heap.size, 0, none⟩ = some (.int .i64 sy0) := keepc hb' c1_a0_0
  clear c1_a0_0 ac1_a0_0
  have c2_a0_1 : w2.cell? ⟨w.heap.size, 1, none⟩ = some (.int .i64 st0) := keepc hb' c1_a0_1
  clear c1_a0_1 ac1_a0_1
  have c2_a0_2 : w2.cell? ⟨w.heap.size, 2, none⟩ = some (.slice A0 n0 c0) := keepc hb' c1_a0_2
  clear c1_a0_2 ac1_a0_2
  have c2_a1_0 : w2.cell? ⟨(w.heap.size + 1), 0, none⟩ = some (.int .i64 st1) := keepc hb' c1_a1_0
  clear c1_a1_0 ac1_a1_0
  have c2_a1_1 : w2.cell? ⟨(w.heap.size + 1), 1, none⟩ = some (.int .i64 hd1) := keepc hb' c1_a1_1
  clear c1_a1_1 ac1_a1_1
  have c2_a1_2 : w2.cell? ⟨(w.heap.size + 1), 2, none⟩ = some (.int .i64 at1) := keepc hb' c1_a1_2
  clear c1_a1_2 ac1_a1_2
  have c2_a1_3 : w2.cell? ⟨(w.heap.size + 1), 3, none⟩ = some (.slice A1 n1 c1) := keepc hb' c1_a1_3
  clear c1_a1_3 ac1_a1_3
  have c2_a1_4 : w2.cell? ⟨(w.heap.size + 1), 4, none⟩ = some (.slice B1 m1 d1) := keepc hb' c1_a1_4
  clear c1_a1_4 ac1_a1_4
  have c2_a1_5 : w2.cell? ⟨(w.heap.size + 1), 5, none⟩ = some (.slice C1 k1 e1) := keepc hb' c1_a1_5
  clear c1_a1_5 ac1_a1_5
  have c2_a2_0 : w2.cell? ⟨(w.heap.size + 1 + 1), 0, none⟩ = some (.int .i64 st2) := keepc hb' c1_a2_0
  clear c1_a2_0 ac1_a2_0
  have c2_a2_1 : w2.cell? ⟨(w.heap.size + 1 + 1), 1, none⟩ = some (.int .i64 hd2) := keepc hb' c1_a2_1
  clear c1_a2_1 ac1_a2_1
  have c2_a2_2 : w2.cell? ⟨(w.heap.size + 1 + 1), 2, none⟩ = some (.int .i64 at2) := keepc hb' c1_a2_2
  clear c1_a2_2 ac1_a2_2
  have c2_a2_3 : w2.cell? ⟨(w.heap.size + 1 + 1), 3, none⟩ = some (.slice A2 n2 c2) := keepc hb' c1_a2_3
  clear c1_a2_3 ac1_a2_3
  have c2_a2_4 : w2.cell? ⟨(w.heap.size + 1 + 1), 4, none⟩ = some (.slice B2 m2 d2) := keepc hb' c1_a2_4
  clear c1_a2_4 ac1_a2_4
  have c2_a2_5 : w2.cell? ⟨(w.heap.size + 1 + 1), 5, none⟩ = some (.slice C2 k2 e2) := keepc hb' c1_a2_5
  clear c1_a2_5 ac1_a2_5
  have ac2_a0_0 := fun o => keepa o c2_a0_0
  have ac2_a0_1 := fun o => keepa o c2_a0_1
  have ac2_a0_2 := fun o => keepa o c2_a0_2
  have ac2_a1_0 := fun o => keepa o c2_a1_0
  have ac2_a1_1 := fun o => keepa o c2_a1_1
  have ac2_a1_2 := fun o => keepa o c2_a1_2
  have ac2_a1_3 := fun o => keepa o c2_a1_3
  have ac2_a1_4 := fun o => keepa o c2_a1_4
  have ac2_a1_5 := fun o => keepa o c2_a1_5
  have ac2_a2_0 := fun o => keepa o c2_a2_0
  have ac2_a2_1 := fun o => keepa o c2_a2_1
  have ac2_a2_2 := fun o => keepa o c2_a2_2
  have ac2_a2_3 := fun o => keepa o c2_a2_3
  have ac2_a2_4 := fun o => keepa o c2_a2_4
  have ac2_a2_5 := fun o => keepa o c2_a2_5
  have rP0 := P0.out.below hb'; clear P0; have P0 := Lib.hid rP0; clear rP0
  have rP1 := P1.out.below hb'; clear P1; have P1 := Lib.hid rP1; clear rP1
  have rP2 := P2.out.below hb'; clear P2; have P2 := Lib.hid rP2; clear rP2
  have rB := below_chain B.out (by omega) hb'; clear B; have B := Lib.hid rB; clear rB
  clear hb hb'
  by_cases hs2 : 1048576 - (n0 : Nat) < (n1 + sumN its1 + (m1 + sumN jts1) + k1)
  · rw [szOf_neg' (by omega)]
    go_wp2
    go_ret
    exact ⟨rfl, B.out⟩
  rw [szOf_pos' (by omega)]
  have hs2' : (0 : Int) ≤ 1048576 - (n0 : Nat) - ((n1 + sumN its1 + (m1 + sumN jts1) + k1) : Nat) := by omega
  have hI0_a1 : ∀ t ∈ its1, t.n ≤ 1000000000 := fun t ht => by have := sumN_mem ht; omega
  have hI1_a1 : ∀ t ∈ jts1, t.n ≤ 1000000000 := fun t ht => by have := sumN_mem ht; omega
  go_wp2_with fail
  refine (szFormula_c _ _ _ _ _ _ its2 _ _ _ jts2 _ _ _ xs2 _ _ (by exact (P2.out.rd)) hb2_0 hb2_1 hb2_2 hj2_0 hj2_1 (by omega) (by omega)).mono ?_
  rintro e w3 ⟨rfl, hb⟩
  have hb' : Below w2.heap.size w2 w3 := (by first | (with_reducible exact hb) | (with_reducible exact up1 hb) | (with_reducible exact up2 hb) | (with_reducible exact up3 hb) | (with_reducible exact up4 hb) | (with_reducible exact below_of_drew hb) | (with_reducible exact below_of_drew (up1 hb)))
  have z3 := hb'.size
  have c3_a0_0 : w3.cell? ⟨w.heap.size, 0, none⟩ = some (.int .i64 sy0) := keepc hb' c2_a0_0
  clear c2_a0_0 ac2_a0_0
  have c3_a0_1 : w3.cell? ⟨w.heap.size, 1, none⟩ = some (.int .i64 st0) := keepc hb' c2_a0_1
  clear c2_a0_1 ac2_a0_1
  have c3_a0_2 : w3.cell? ⟨w.heap.size, 2, none⟩ = some (.slice A0 n0 c0) := keepc hb' c2_a0_2
  clear c2_a0_2 ac2_a0_2
  have c3_a1_0 : w3.cell? ⟨(w.heap.size + 1), 0, none⟩ = some (.int .i64 st1) := keepc hb' c2_a1_0
  clear c2_a1_0 ac2_a1_0
  have c3_a1_1 : w3.cell? ⟨(w.heap.size + 1), 1, none⟩ = some (.int .i64 hd1) := keepc hb' c2_a1_1
  clear c2_a1_1 ac2_a1_1
  have c3_a1_2 : w3.cell? ⟨(w.heap.size + 1), 2, none⟩ = some (.int .i64 at1) := keepc hb' c2_a1_2
  clear c2_a1_2 ac2_a1_2
  have c3_a1_3 : w3.cell? ⟨(w.heap.size + 1), 3, none⟩ = some (.slice A1 n1 c1) := keepc hb' c2_a1_3
  clear c2_a1_3 ac2_a1_3
  have c3_a1_4 : w3.cell? ⟨(w.heap.size + 1), 4, none⟩ = some (.slice B1 m1 d1) := keepc hb' c2_a1_4
  clear c2_a1_4 ac2_a1_4
  have c3_a1_5 : w3.cell? ⟨(w.heap.size + 1), 5, none⟩ = some (.slice C1 k1 e1) := keepc hb' c2_a1_5
  clear c2_a1_5 ac2_a1_5
  have c3_a2_0 : w3.cell? ⟨(w.heap.size + 1 + 1), 0, none⟩ = some (.int .i64 st2) := keepc hb' c2_a2_0
  clear c2_a2_0 ac2_a2_0
  have c3_a2_1 : w3.cell? ⟨(w.heap.size + 1 + 1), 1, none⟩ = some (.int .i64 hd2) := keepc hb' c2_a2_1
  clear c2_a2_1 ac2_a2_1
  have c3_a2_2 : w3.cell? ⟨(w.heap.size + 1 + 1), 2, none⟩ = some (.int .i64 at2) := keepc hb' c2_a2_2
  clear c2_a2_2 ac2_a2_2
  have c3_a2_3 : w3.cell? ⟨(w.heap.size + 1 + 1), 3, none⟩ = some (.slice A2 n2 c2) := keepc hb' c2_a2_3
  clear c2_a2_3 ac2_a2_3
  have c3_a2_4 : w3.cell? ⟨(w.heap.size + 1 + 1), 4, none⟩ = some (.slice B2 m2 d2) := keepc hb' c2_a2_4
  clear c2_a2_4 ac2_a2_4
  have c3_a2_5 : w3.cell? ⟨(w.heap.size + 1 + 1), 5, none⟩ = some (.slice C2 k2 e2) := keepc hb' c2_a2_5
  clear c2_a2_5 ac2_a2_5
  have ac3_a0_0 := fun o => keepa o c3_a0_0
  have ac3_a0_1 := fun o => keepa o c3_a0_1
  have ac3_a0_2 := fun o => keepa o c3_a0_2
  have ac3_a1_0 := fun o => keepa o c3_a1_0
  have ac3_a1_1 := fun o => keepa o c3_a1_1
  have ac3_a1_2 := fun o => keepa o c3_a1_2
  have ac3_a1_3 := fun o => keepa o c3_a1_3
  have ac3_a1_4 := fun o => keepa o c3_a1_4
  have ac3_a1_5 := fun o => keepa o c3_a1_5
  have ac3_a2_0 := fun o => keepa o c3_a2_0
  have ac3_a2_1 := fun o => keepa o c3_a2_1
  have ac3_a2_2 := fun o => keepa o c3_a2_2
  have ac3_a2_3 := fun o => keepa o c3_a2_3
  have ac3_a2_4 := fun o => keepa o c3_a2_4
  have ac3_a2_5 := fun o => keepa o c3_a2_5
  have rP0 := P0.out.below hb'; clear P0; have P0 := Lib.hid rP0; clear rP0
  have rP1 := P1.out.below hb'; clear P1; have P1 := Lib.hid rP1; clear rP1
  have rP2 := P2.out.below hb'; clear P2; have P2 := Lib.hid rP2; clear rP2
  have rB := below_chain B.out (by omega) hb'; clear B; have B := Lib.hid rB; clear rB
  clear hb hb'
  by_cases hs3 : 1048576 - (n0 : Nat) - ((n1 + sumN its1 + (m1 + sumN jts1) + k1) : Nat) < (n2 + sumN its2 + (m2 + sumN jts2) + k2)
  · rw [szOf_neg' (by omega)]
    go_wp2
    go_ret
    exact ⟨rfl, B.out⟩
  rw [szOf_pos' (by omega)]
  have hs3' : (0 : Int) ≤ 1048576 - (n0 : Nat) - ((n1 + sumN its1 + (m1 + sumN jts1) + k1) : Nat) - ((n2 + sumN its2 + (m2 + sumN jts2) + k2) : Nat) := by omega
  have hI0_a2 : ∀ t ∈ its2, t.n ≤ 1000000000 := fun t ht => by have := sumN_mem ht; omega
  have hI1_a2 : ∀ t ∈ jts2, t.n ≤ 1000000000 := fun t ht => by have := sumN_mem ht; omega
  go_wp2_with fail
  have fx_c3_a0_0 := Ext.cell c3_a0_0
  have fx_c3_a0_1 := Ext.cell c3_a0_1
  have fx_c3_a0_2 := Ext.cell c3_a0_2
  have fx_c3_a1_0 := Ext.cell c3_a1_0
  have fx_c3_a1_1 := Ext.cell c3_a1_1
  have fx_c3_a1_2 := Ext.cell c3_a1_2
  have fx_c3_a1_3 := Ext.cell c3_a1_3
  have fx_c3_a1_4 := Ext.cell c3_a1_4
  have fx_c3_a1_5 := Ext.cell c3_a1_5
  have fx_c3_a2_0 := Ext.cell c3_a2_0
  have fx_c3_a2_1 := Ext.cell c3_a2_1
  have fx_c3_a2_2 := Ext.cell c3_a2_2
  have fx_c3_a2_3 := Ext.cell c3_a2_3
  have fx_c3_a2_4 := Ext.cell c3_a2_4
  have fx_c3_a2_5 := Ext.cell c3_a2_5
  refine Mix.wp_region_mix [3, 1, 3, 1, 3, 1, 1, 0, 0, 0, 0, 0] (fun w' => ∃ x : Ext w3, w' = x.w) (by kernel_rfl) (by kernel_rfl) (InExt.drew _) ?_
  repeat (first | (refine Mix.wpMix_read (by rfl) ?_; go_big_quiet_step (fail); refine wpQuiet_nil ?_) | (refine Mix.wpMix_pure (by rfl) ?_; go_big_quiet_step (fail); refine wpQuiet_nil ?_))
  refine Mix.wpMix_chg (by rfl) (fun K hK => ?_)
  go_wp2_with fail
  refine (toMachine_c _ _ _ _ _ _ _ (by exact (P0.out.rd)) (by omega)).mono ?_
  rintro e w4 ⟨g011, rfl, q4, hb⟩
  have hb' : Below w3.heap.size w3 w4 := (by first | (with_reducible exact hb) | (with_reducible exact up1 hb) | (with_reducible exact up2 hb) | (with_reducible exact up3 hb) | (with_reducible exact up4 hb) | (with_reducible exact below_of_drew hb) | (with_reducible exact below_of_drew (up1 hb)))
  have z4 := hb'.size
  have c4_a0_0 : w4.cell? ⟨w.heap.size, 0, none⟩ = some (.int .i64 sy0) := keepc hb' c3_a0_0
  clear c3_a0_0 ac3_a0_0
  have c4_a0_1 : w4.cell? ⟨w.heap.size, 1, none⟩ = some (.int .i64 st0) := keepc hb' c3_a0_1
  clear c3_a0_1 ac3_a0_1
  have c4_a0_2 : w4.cell? ⟨w.heap.size, 2, none⟩ = some (.slice A0 n0 c0) := keepc hb' c3_a0_2
  clear c3_a0_2 ac3_a0_2
  have c4_a1_0 : w4.cell? ⟨(w.heap.size + 1), 0, none⟩ = some (.int .i64 st1) := keepc hb' c3_a1_0
  clear c3_a1_0 ac3_a1_0
  have c4_a1_1 : w4.cell? ⟨(w.heap.size + 1), 1, none⟩ = some (.int .i64 hd1) := keepc hb' c3_a1_1
  clear c3_a1_1 ac3_a1_1
  have c4_a1_2 : w4.cell? ⟨(w.heap.size + 1), 2, none⟩ = some (.int .i64 at1) := keepc hb' c3_a1_2
  clear c3_a1_2 ac3_a1_2
  have c4_a1_3 : w4.cell? ⟨(w.heap.size + 1), 3, none⟩ = some (.slice A1 n1 c1) := keepc hb' c3_a1_3
  clear c3_a1_3 ac3_a1_3
  have c4_a1_4 : w4.cell? ⟨(w.heap.size + 1), 4, none⟩ = some (.slice B1 m1 d1) := keepc hb' c3_a1_4
  clear c3_a1_4 ac3_a1_4
  have c4_a1_5 : w4.cell? ⟨(w.heap.size + 1), 5, none⟩ = some (.slice C1 k1 e1) := keepc hb' c3_a1_5
  clear c3_a1_5 ac3_a1_5
  have c4_a2_0 : w4.cell? ⟨(w.heap.size + 1 + 1), 0, none⟩ = some (.int .i64 st2) := keepc hb' c3_a2_0
  clear c3_a2_0 ac3_a2_0
  have c4_a2_1 : w4.cell? ⟨(w.heap.size + 1 + 1), 1, none⟩ = some (.int .i64 hd2) := keepc hb' c3_a2_1
  clear c3_a2_1 ac3_a2_1
  have c4_a2_2 : w4.cell? ⟨(w.heap.size + 1 + 1), 2, none⟩ = some (.int .i64 at2) := keepc hb' c3_a2_2
  clear c3_a2_2 ac3_a2_2
  have c4_a2_3 : w4.cell? ⟨(w.heap.size + 1 + 1), 3, none⟩ = some (.slice A2 n2 c2) := keepc hb' c3_a2_3
  clear c3_a2_3 ac3_a2_3
  have c4_a2_4 : w4.cell? ⟨(w.heap.size + 1 + 1), 4, none⟩ = some (.slice B2 m2 d2) := keepc hb' c3_a2_4
  clear c3_a2_4 ac3_a2_4
  have c4_a2_5 : w4.cell? ⟨(w.heap.size + 1 + 1), 5, none⟩ = some (.slice C2 k2 e2) := keepc hb' c3_a2_5
  clear c3_a2_5 ac3_a2_5
  have ac4_a0_0 := fun o => keepa o c4_a0_0
  have ac4_a0_1 := fun o => keepa o c4_a0_1
  have ac4_a0_2 := fun o => keepa o c4_a0_2
  have ac4_a1_0 := fun o => keepa o c4_a1_0
  have ac4_a1_1 := fun o => keepa o c4_a1_1
  have ac4_a1_2 := fun o => keepa o c4_a1_2
  have ac4_a1_3 := fun o => keepa o c4_a1_3
  have ac4_a1_4 := fun o => keepa o c4_a1_4
  have ac4_a1_5 := fun o => keepa o c4_a1_5
  have ac4_a2_0 := fun o => keepa o c4_a2_0
  have ac4_a2_1 := fun o => keepa o c4_a2_1
  have ac4_a2_2 := fun o => keepa o c4_a2_2
  have ac4_a2_3 := fun o => keepa o c4_a2_3
  have ac4_a2_4 := fun o => keepa o c4_a2_4
  have ac4_a2_5 := fun o => keepa o c4_a2_5
  have rP0 := P0.out.below hb'; clear P0; have P0 := Lib.hid rP0; clear rP0
  have rP1 := P1.out.below hb'; clear P1; have P1 := Lib.hid rP1; clear rP1
  have rP2 := P2.out.below hb'; clear P2; have P2 := Lib.hid rP2; clear rP2
  have rB := below_chain B.out (by omega) hb'; clear B; have B := Lib.hid rB; clear rB
  have Fo12 := Lib.hid q4; clear q4
  have em4 : Below w3.heap.size w3 w4 := hb'
  clear hb hb'
  go_wp2_with fail
  refine hK _ _ ⟨⟨_, em4⟩, rfl⟩ ?_
  clear hK K
  repeat (first | (refine Mix.wpMix_read (by rfl) ?_; go_big_quiet_step (fail); refine wpQuiet_nil ?_) | (refine Mix.wpMix_pure (by rfl) ?_; go_big_quiet_step (fail); refine wpQuiet_nil ?_))
  refine Mix.wpMix_chg (by rfl) (fun K hK => ?_)
  go_wp2_with fail
  refine (toFormula_c _ _ _ _ _ _ _ _ _ _ _ _ _ _ _ _ (by exact (P1.out.rd)) (by omega) (by omega) (by omega) hI0_a1 hI1_a1).mono ?_
  rintro e w5 ⟨g013, js014, g115, js116, g217, rfl, hx0_5, hx1_5, q5, hb⟩
  have hb' : Below w4.heap.size w4 w5 := (by first | (with_reducible exact hb) | (with_reducible exact up1 hb) | (with_reducible exact up2 hb) | (with_reducible exact up3 hb) | (with_reducible exact up4 hb) | (with_reducible exact below_of_drew hb) | (with_reducible exact below_of_drew (up1 hb)))
  have z5 := hb'.size
  have c5_a0_0 : w5.cell? ⟨w.heap.size, 0, none⟩ = some (.int .i64 sy0) := keepc hb' c4_a0_0
  clear c4_a0_0 ac4_a0_0
  have c5_a0_1 : w5.cell? ⟨w.heap.size, 1, none⟩ = some (.int .i64 st0) := keepc hb' c4_a0_1
  clear c4_a0_1 ac4_a0_1
  have c5_a0_2 : w5.cell? ⟨w.heap.size, 2, none⟩ = some (.slice A0 n0 c0) := keepc hb' c4_a0_2
  clear c4_a0_2 ac4_a0_2
  have c5_a1_0 : w5.cell? ⟨(w.heap.size + 1), 0, none⟩ = some (.int .i64 st1) := keepc hb' c4_a1_0
  clear c4_a1_0 ac4_a1_0
  have c5_a1_1 : w5.cell? ⟨(w.heap.size + 1), 1, none⟩ = some (.int .i64 hd1) := keepc hb' c4_a1_1
  clear c4_a1_1 ac4_a1_1
  have c5_a1_2 : w5.cell? ⟨(w.heap.size + 1), 2, none⟩ = some (.int .i64 at1) := keepc hb' c4_a1_2
  clear c4_a1_2 ac4_a1_2
  have c5_a1_3 : w5.cell? ⟨(w.heap.size + 1), 3, none⟩ = some (.slice A1 n1 c1) := keepc hb' c4_a1_3
  clear c4_a1_3 ac4_a1_3
  have c5_a1_4 : w5.cell? ⟨(w.heap.size + 1), 4, none⟩ = some (.slice B1 m1 d1) := keepc hb' c4_a1_4
  clear c4_a1_4 ac4_a1_4
  have c5_a1_5 : w5.cell? ⟨(w.heap.size + 1), 5, none⟩ = some (.slice C1 k1 e1) := keepc hb' c4_a1_5
  clear c4_a1_5 ac4_a1_5
  have c5_a2_0 : w5.cell? ⟨(w.heap.size + 1 + 1), 0, none⟩ = some (.int .i64 st2) := keepc hb' c4_a2_0
  clear c4_a2_0 ac4_a2_0
  have c5_a2_1 : w5.cell? ⟨(w.heap.size + 1 + 1), 1, none⟩ = some (.int .i64 hd2) := keepc hb' c4_a2_1
  clear c4_a2_1 ac4_a2_1
  have c5_a2_2 : w5.cell? ⟨(w.heap.size + 1 + 1), 2, none⟩ = some (.int .i64 at2) := keepc hb' c4_a2_2
  clear c4_a2_2 ac4_a2_2
  have c5_a2_3 : w5.cell? ⟨(w.heap.size + 1 + 1), 3, none⟩ = some (.slice A2 n2 c2) := keepc hb' c4_a2_3
  clear c4_a2_3 ac4_a2_3
  have c5_a2_4 : w5.cell? ⟨(w.heap.size + 1 + 1), 4, none⟩ = some (.slice B2 m2 d2) := keepc hb' c4_a2_4
  clear c4_a2_4 ac4_a2_4
  have c5_a2_5 : w5.cell? ⟨(w.heap.size + 1 + 1), 5, none⟩ = some (.slice C2 k2 e2) := keepc hb' c4_a2_5
  clear c4_a2_5 ac4_a2_5
  have ac5_a0_0 := fun o => keepa o c5_a0_0
  have ac5_a0_1 := fun o => keepa o c5_a0_1
  have ac5_a0_2 := fun o => keepa o c5_a0_2
  have ac5_a1_0 := fun o => keepa o c5_a1_0
  have ac5_a1_1 := fun o => keepa o c5_a1_1
  have ac5_a1_2 := fun o => keepa o c5_a1_2
  have ac5_a1_3 := fun o => keepa o c5_a1_3
  have ac5_a1_4 := fun o => keepa o c5_a1_4
  have ac5_a1_5 := fun o => keepa o c5_a1_5
  have ac5_a2_0 := fun o => keepa o c5_a2_0
  have ac5_a2_1 := fun o => keepa o c5_a2_1
  have ac5_a2_2 := fun o => keepa o c5_a2_2
  have ac5_a2_3 := fun o => keepa o c5_a2_3
  have ac5_a2_4 := fun o => keepa o c5_a2_4
  have ac5_a2_5 := fun o => keepa o c5_a2_5
  have rP0 := P0.out.below hb'; clear P0; have P0 := Lib.hid rP0; clear rP0
  have rP1 := P1.out.below hb'; clear P1; have P1 := Lib.hid rP1; clear rP1
  have rP2 := P2.out.below hb'; clear P2; have P2 := Lib.hid rP2; clear rP2
  have rFo12 := Fo12.out.below hb'; clear Fo12; have Fo12 := Lib.hid rFo12; clear rFo12
  have rB := below_chain B.out (by omega) hb'; clear B; have B := Lib.hid rB; clear rB
  have Fo18 := Lib.hid q5; clear q5
  have hm0_o18 := hx0_5
  have hI0_o18 : ∀ t ∈ js014, t.n ≤ 1000000000 := hi_of ((P1.out.rd).left.left) ((Fo18.out.rd).left.left) hx0_5 hI0_a1
  have hSm0_o18 : sumN js014 ≤ sumN its1 := sum_of ((P1.out.rd).left.left) ((Fo18.out.rd).left.left) hx0_5
  have hm1_o18 := hx1_5
  have hI1_o18 : ∀ t ∈ js116, t.n ≤ 1000000000 := hi_of ((P1.out.rd).left.right) ((Fo18.out.rd).left.right) hx1_5 hI1_a1
  have hSm1_o18 : sumN js116 ≤ sumN jts1 := sum_of ((P1.out.rd).left.right) ((Fo18.out.rd).left.right) hx1_5
  have em5 : Below w3.heap.size w3 w5 := below_chain em4 (by omega) hb'
  clear hb hb'
  go_wp2_with fail
  refine hK _ _ ⟨⟨_, em5⟩, rfl⟩ ?_
  clear hK K
  repeat (first | (refine Mix.wpMix_read (by rfl) ?_; go_big_quiet_step (fail); refine wpQuiet_nil ?_) | (refine Mix.wpMix_pure (by rfl) ?_; go_big_quiet_step (fail); refine wpQuiet_nil ?_))
  refine Mix.wpMix_chg (by rfl) (fun K hK => ?_)
  go_wp2_with fail
  refine (toFormula_c _ _ _ _ _ _ _ _ _ _ _ _ _ _ _ _ (by exact (P2.out.rd)) (by omega) (by omega) (by omega) hI0_a2 hI1_a2).mono ?_
  rintro e w6 ⟨g019, js020, g121, js122, g223, rfl, hx0_6, hx1_6, q6, hb⟩
  have hb' : Below w5.heap.size w5 w6 := (by first | (with_reducible exact hb) | (with_reducible exact up1 hb) | (with_reducible exact up2 hb) | (with_reducible exact up3 hb) | (with_reducible exact up4 hb) | (with_reducible exact below_of_drew hb) | (with_reducible exact below_of_drew (up1 hb)))
  have z6 := hb'.size
  have c6_a0_0 : w6.cell? ⟨w.heap.size, 0, none⟩ = some (.int .i64 sy0) := keepc hb' c5_a0_0
  clear c5_a0_0 ac5_a0_0
  have c6_a0_1 : w6.cell? ⟨w.heap.size, 1, none⟩ = some (.int .i64 st0) := keepc hb' c5_a0_1
  clear c5_a0_1 ac5_a0_1
  have c6_a0_2 : w6.cell? ⟨w.heap.size, 2, none⟩ = some (.slice A0 n0 c0) := keepc hb' c5_a0_2
  clear c5_a0_2 ac5_a0_2
  have c6_a1_0 : w6.cell? ⟨(w.heap.size + 1), 0, none⟩ = some (.int .i64 st1) := keepc hb' c5_a1_0
  clear c5_a1_0 ac5_a1_0
  have c6_a1_1 : w6.cell? ⟨(w.heap.size + 1), 1, none⟩ = some (.int .i64 hd1) := keepc hb' c5_a1_1
  clear c5_a1_1 ac5_a1_1
  have c6_a1_2 : w6.cell? ⟨(w.heap.size + 1), 2, none⟩ = some (.int .i64 at1) := keepc hb' c5_a1_2
  clear c5_a1_2 ac5_a1_2
  have c6_a1_3 : w6.cell? ⟨(w.heap.size + 1), 3, none⟩ = some (.slice A1 n1 c1) := keepc hb' c5_a1_3
  clear c5_a1_3 ac5_a1_3
  have c6_a1_4 : w6.cell? ⟨(w.heap.size + 1), 4, none⟩ = some (.slice B1 m1 d1) := keepc hb' c5_a1_4
  clear c5_a1_4 ac5_a1_4
  have c6_a1_5 : w6.cell? ⟨(w.heap.size + 1), 5, none⟩ = some (.slice C1 k1 e1) := keepc hb' c5_a1_5
  clear c5_a1_5 ac5_a1_5
  have c6_a2_0 : w6.cell? ⟨(w.heap.size + 1 + 1), 0, none⟩ = some (.int .i64 st2) := keepc hb' c5_a2_0
  clear c5_a2_0 ac5_a2_0
  have c6_a2_1 : w6.cell? ⟨(w.heap.size + 1 + 1), 1, none⟩ = some (.int .i64 hd2) := keepc hb' c5_a2_1
  clear c5_a2_1 ac5_a2_1
  have c6_a2_2 : w6.cell? ⟨(w.heap.size + 1 + 1), 2, none⟩ = some (.int .i64 at2) := keepc hb' c5_a2_2
  clear c5_a2_2 ac5_a2_2
  have c6_a2_3 : w6.cell? ⟨(w.heap.size + 1 + 1), 3, none⟩ = some (.slice A2 n2 c2) := keepc hb' c5_a2_3
  clear c5_a2_3 ac5_a2_3
  have c6_a2_4 : w6.cell? ⟨(w.heap.size + 1 + 1), 4, none⟩ = some (.slice B2 m2 d2) := keepc hb' c5_a2_4
  clear c5_a2_4 ac5_a2_4
  have c6_a2_5 : w6.cell? ⟨(w.heap.size + 1 + 1), 5, none⟩ = some (.slice C2 k2 e2) := keepc hb' c5_a2_5
  clear c5_a2_5 ac5_a2_5
  have ac6_a0_0 := fun o => keepa o c6_a0_0
  have ac6_a0_1 := fun o => keepa o c6_a0_1
  have ac6_a0_2 := fun o => keepa o c6_a0_2
  have ac6_a1_0 := fun o => keepa o c6_a1_0
  have ac6_a1_1 := fun o => keepa o c6_a1_1
  have ac6_a1_2 := fun o => keepa o c6_a1_2
  have ac6_a1_3 := fun o => keepa o c6_a1_3
  have ac6_a1_4 := fun o => keepa o c6_a1_4
  have ac6_a1_5 := fun o => keepa o c6_a1_5
  have ac6_a2_0 := fun o => keepa o c6_a2_0
  have ac6_a2_1 := fun o => keepa o c6_a2_1
  have ac6_a2_2 := fun o => keepa o c6_a2_2
  have ac6_a2_3 := fun o => keepa o c6_a2_3
  have ac6_a2_4 := fun o => keepa o c6_a2_4
  have ac6_a2_5 := fun o => keepa o c6_a2_5
  have rP0 := P0.out.below hb'; clear P0; have P0 := Lib.hid rP0; clear rP0
  have rP1 := P1.out.below hb'; clear P1; have P1 := Lib.hid rP1; clear rP1
  have rP2 := P2.out.below hb'; clear P2; have P2 := Lib.hid rP2; clear rP2
  have rFo12 := Fo12.out.below hb'; clear Fo12; have Fo12 := Lib.hid rFo12; clear rFo12
  have rFo18 := Fo18.out.below hb'; clear Fo18; have Fo18 := Lib.hid rFo18; clear rFo18
  have rB := below_chain B.out (by omega) hb'; clear B; have B := Lib.hid rB; clear rB
  have Fo24 := Lib.hid q6; clear q6
  have hm0_o24 := hx0_6
  have hI0_o24 : ∀ t ∈ js020, t.n ≤ 1000000000 := hi_of ((P2.out.rd).left.left) ((Fo24.out.rd).left.left) hx0_6 hI0_a2
  have hSm0_o24 : sumN js020 ≤ sumN its2 := sum_of ((P2.out.rd).left.left) ((Fo24.out.rd).left.left) hx0_6
  have hm1_o24 := hx1_6
  have hI1_o24 : ∀ t ∈ js122, t.n ≤ 1000000000 := hi_of ((P2.out.rd).left.right) ((Fo24.out.rd).left.right) hx1_6 hI1_a2
  have hSm1_o24 : sumN js122 ≤ sumN jts2 := sum_of ((P2.out.rd).left.right) ((Fo24.out.rd).left.right) hx1_6
  have em6 : Below w3.heap.size w3 w6 := below_chain em5 (by omega) hb'
  clear hb hb'
  go_wp2_with fail
  refine hK _ _ ⟨⟨_, em6⟩, rfl⟩ ?_
  clear hK K
  refine Mix.wpMix_chg (by rfl) (fun K hK => ?_)
  go_wp2_with fail
  refine (sGrowthOf_c _ _ _ _ _ _ _ _ _ _ _ _ _ _ _ _ _ _ _ _ _ _ _ _ _ _ _ _ _ _ _ _ _ _ _ _ _ (by exact (Fo12.out.rd)) (by exact (Fo18.out.rd)) (by exact (Fo24.out.rd)) (by omega) (by omega) (by omega) (by omega) (by omega) (by omega) (by omega) hI0_o18 hI1_o18 hI0_o24 hI1_o24 hm0_o18 hm1_o18 hm0_o24 hm1_o24 HRR.out).mono ?_
  rintro e w7 ⟨A25, n26, c27, rfl, q28, l29, hb⟩
  have hb' : Below w6.heap.size w6 w7 := (by first | (with_reducible exact hb) | (with_reducible exact up1 hb) | (with_reducible exact up2 hb) | (with_reducible exact up3 hb) | (with_reducible exact up4 hb) | (with_reducible exact below_of_drew hb) | (with_reducible exact below_of_drew (up1 hb)))
  have z7 := hb'.size
  have c7_a0_0 : w7.cell? ⟨w.heap.size, 0, none⟩ = some (.int .i64 sy0) := keepc hb' c6_a0_0
  clear c6_a0_0 ac6_a0_0
  have c7_a0_1 : w7.cell? ⟨w.heap.size, 1, none⟩ = some (.int .i64 st0) := keepc hb' c6_a0_1
  clear c6_a0_1 ac6_a0_1
  have c7_a0_2 : w7.cell? ⟨w.heap.size, 2, none⟩ = some (.slice A0 n0 c0) := keepc hb' c6_a0_2
  clear c6_a0_2 ac6_a0_2
  have c7_a1_0 : w7.cell? ⟨(w.heap.size + 1), 0, none⟩ = some (.int .i64 st1) := keepc hb' c6_a1_0
  clear c6_a1_0 ac6_a1_0
  have c7_a1_1 : w7.cell? ⟨(w.heap.size + 1), 1, none⟩ = some (.int .i64 hd1) := keepc hb' c6_a1_1
  clear c6_a1_1 ac6_a1_1
  have c7_a1_2 : w7.cell? ⟨(w.heap.size + 1), 2, none⟩ = some (.int .i64 at1) := keepc hb' c6_a1_2
  clear c6_a1_2 ac6_a1_2
  have c7_a1_3 : w7.cell? ⟨(w.heap.size + 1), 3, none⟩ = some (.slice A1 n1 c1) := keepc hb' c6_a1_3
  clear c6_a1_3 ac6_a1_3
  have c7_a1_4 : w7.cell? ⟨(w.heap.size + 1), 4, none⟩ = some (.slice B1 m1 d1) := keepc hb' c6_a1_4
  clear c6_a1_4 ac6_a1_4
  have c7_a1_5 : w7.cell? ⟨(w.heap.size + 1), 5, none⟩ = some (.slice C1 k1 e1) := keepc hb' c6_a1_5
  clear c6_a1_5 ac6_a1_5
  have c7_a2_0 : w7.cell? ⟨(w.heap.size + 1 + 1), 0, none⟩ = some (.int .i64 st2) := keepc hb' c6_a2_0
  clear c6_a2_0 ac6_a2_0
  have c7_a2_1 : w7.cell? ⟨(w.heap.size + 1 + 1), 1, none⟩ = some (.int .i64 hd2) := keepc hb' c6_a2_1
  clear c6_a2_1 ac6_a2_1
  have c7_a2_2 : w7.cell? ⟨(w.heap.size + 1 + 1), 2, none⟩ = some (.int .i64 at2) := keepc hb' c6_a2_2
  clear c6_a2_2 ac6_a2_2
  have c7_a2_3 : w7.cell? ⟨(w.heap.size + 1 + 1), 3, none⟩ = some (.slice A2 n2 c2) := keepc hb' c6_a2_3
  clear c6_a2_3 ac6_a2_3
  have c7_a2_4 : w7.cell? ⟨(w.heap.size + 1 + 1), 4, none⟩ = some (.slice B2 m2 d2) := keepc hb' c6_a2_4
  clear c6_a2_4 ac6_a2_4
  have c7_a2_5 : w7.cell? ⟨(w.heap.size + 1 + 1), 5, none⟩ = some (.slice C2 k2 e2) := keepc hb' c6_a2_5
  clear c6_a2_5 ac6_a2_5
  have ac7_a0_0 := fun o => keepa o c7_a0_0
  have ac7_a0_1 := fun o => keepa o c7_a0_1
  have ac7_a0_2 := fun o => keepa o c7_a0_2
  have ac7_a1_0 := fun o => keepa o c7_a1_0
  have ac7_a1_1 := fun o => keepa o c7_a1_1
  have ac7_a1_2 := fun o => keepa o c7_a1_2
  have ac7_a1_3 := fun o => keepa o c7_a1_3
  have ac7_a1_4 := fun o => keepa o c7_a1_4
  have ac7_a1_5 := fun o => keepa o c7_a1_5
  have ac7_a2_0 := fun o => keepa o c7_a2_0
  have ac7_a2_1 := fun o => keepa o c7_a2_1
  have ac7_a2_2 := fun o => keepa o c7_a2_2
  have ac7_a2_3 := fun o => keepa o c7_a2_3
  have ac7_a2_4 := fun o => keepa o c7_a2_4
  have ac7_a2_5 := fun o => keepa o c7_a2_5
  have rP0 := P0.out.below hb'; clear P0; have P0 := Lib.hid rP0; clear rP0
  have rP1 := P1.out.below hb'; clear P1; have P1 := Lib.hid rP1; clear rP1
  have rP2 := P2.out.below hb'; clear P2; have P2 := Lib.hid rP2; clear rP2
  have rFo12 := Fo12.out.below hb'; clear Fo12; have Fo12 := Lib.hid rFo12; clear rFo12
  have rFo18 := Fo18.out.below hb'; clear Fo18; have Fo18 := Lib.hid rFo18; clear rFo18
  have rFo24 := Fo24.out.below hb'; clear Fo24; have Fo24 := Lib.hid rFo24; clear rFo24
  have rB := below_chain B.out (by omega) hb'; clear B; have B := Lib.hid rB; clear rB
  have Fo30 := Lib.hid q28; clear q28
  have em7 : Below w3.heap.size w3 w7 := below_chain em6 (by omega) hb'
  clear hb hb'
  go_wp2_with fail
  refine hK _ _ ⟨⟨_, em7⟩, rfl⟩ ?_
  clear hK K
  repeat (first | (refine Mix.wpMix_read (by rfl) ?_; go_big_quiet_step (fail); refine wpQuiet_nil ?_) | (refine Mix.wpMix_pure (by rfl) ?_; go_big_quiet_step (fail); refine wpQuiet_nil ?_))
  (refine Mix.wpMix_nil ?_; try simp only [Exit.then])
  clear fx_c3_a0_0
  clear fx_c3_a0_1
  clear fx_c3_a0_2
  clear fx_c3_a1_0
  clear fx_c3_a1_1
  clear fx_c3_a1_2
  clear fx_c3_a1_3
  clear fx_c3_a1_4
  clear fx_c3_a1_5
  clear fx_c3_a2_0
  clear fx_c3_a2_1
  clear fx_c3_a2_2
  clear fx_c3_a2_3
  clear fx_c3_a2_4
  clear fx_c3_a2_5
  clear Fo12
  clear Fo18
  clear Fo24
  go_wp2_with fail
  refine (toMachine_c _ _ _ _ _ _ _ (by exact (P0.out.rd)) (by omega)).mono ?_
  rintro e w8 ⟨g031, rfl, q8, hb⟩
  have hb' : Below w7.heap.size w7 w8 := (by first | (with_reducible exact hb) | (with_reducible exact up1 hb) | (with_reducible exact up2 hb) | (with_reducible exact up3 hb) | (with_reducible exact up4 hb) | (with_reducible exact below_of_drew hb) | (with_reducible exact below_of_drew (up1 hb)))
  have z8 := hb'.size
  have c8_a0_0 : w8.cell? ⟨w.heap.size, 0, none⟩ = some (.int .i64 sy0) := keepc hb' c7_a0_0
  clear c7_a0_0 ac7_a0_0
  have c8_a0_1 : w8.cell? ⟨w.heap.size, 1, none⟩ = some (.int .i64 st0) := keepc hb' c7_a0_1
  clear c7_a0_1 ac7_a0_1
  have c8_a0_2 : w8.cell? ⟨w.heap.size, 2, none⟩ = some (.slice A0 n0 c0) := keepc hb' c7_a0_2
  clear c7_a0_2 ac7_a0_2
  have c8_a1_0 : w8.cell? ⟨(w.heap.size + 1), 0, none⟩ = some (.int .i64 st1) := keepc hb' c7_a1_0
  clear c7_a1_0 ac7_a1_0
  have c8_a1_1 : w8.cell? ⟨(w.heap.size + 1), 1, none⟩ = some (.int .i64 hd1) := keepc hb' c7_a1_1
  clear c7_a1_1 ac7_a1_1
  have c8_a1_2 : w8.cell? ⟨(w.heap.size + 1), 2, none⟩ = some (.int .i64 at1) := keepc hb' c7_a1_2
  clear c7_a1_2 ac7_a1_2
  have c8_a1_3 : w8.cell? ⟨(w.heap.size + 1), 3, none⟩ = some (.slice A1 n1 c1) := keepc hb' c7_a1_3
  clear c7_a1_3 ac7_a1_3
  have c8_a1_4 : w8.cell? ⟨(w.heap.size + 1), 4, none⟩ = some (.slice B1 m1 d1) := keepc hb' c7_a1_4
  clear c7_a1_4 ac7_a1_4
  have c8_a1_5 : w8.cell? ⟨(w.heap.size + 1), 5, none⟩ = some (.slice C1 k1 e1) := keepc hb' c7_a1_5
  clear c7_a1_5 ac7_a1_5
  have c8_a2_0 : w8.cell? ⟨(w.heap.size + 1 + 1), 0, none⟩ = some (.int .i64 st2) := keepc hb' c7_a2_0
  clear c7_a2_0 ac7_a2_0
  have c8_a2_1 : w8.cell? ⟨(w.heap.size + 1 + 1), 1, none⟩ = some (.int .i64 hd2) := keepc hb' c7_a2_1
  clear c7_a2_1 ac7_a2_1
  have c8_a2_2 : w8.cell? ⟨(w.heap.size + 1 + 1), 2, none⟩ = some (.int .i64 at2) := keepc hb' c7_a2_2
  clear c7_a2_2 ac7_a2_2
  have c8_a2_3 : w8.cell? ⟨(w.heap.size + 1 + 1), 3, none⟩ = some (.slice A2 n2 c2) := keepc hb' c7_a2_3
  clear c7_a2_3 ac7_a2_3
  have c8_a2_4 : w8.cell? ⟨(w.heap.size + 1 + 1), 4, none⟩ = some (.slice B2 m2 d2) := keepc hb' c7_a2_4
  clear c7_a2_4 ac7_a2_4
  have c8_a2_5 : w8.cell? ⟨(w.heap.size + 1 + 1), 5, none⟩ = some (.slice C2 k2 e2) := keepc hb' c7_a2_5
  clear c7_a2_5 ac7_a2_5
  have ac8_a0_0 := fun o => keepa o c8_a0_0
  have ac8_a0_1 := fun o => keepa o c8_a0_1
  have ac8_a0_2 := fun o => keepa o c8_a0_2
  have ac8_a1_0 := fun o => keepa o c8_a1_0
  have ac8_a1_1 := fun o => keepa o c8_a1_1
  have ac8_a1_2 := fun o => keepa o c8_a1_2
  have ac8_a1_3 := fun o => keepa o c8_a1_3
  have ac8_a1_4 := fun o => keepa o c8_a1_4
  have ac8_a1_5 := fun o => keepa o c8_a1_5
  have ac8_a2_0 := fun o => keepa o c8_a2_0
  have ac8_a2_1 := fun o => keepa o c8_a2_1
  have ac8_a2_2 := fun o => keepa o c8_a2_2
  have ac8_a2_3 := fun o => keepa o c8_a2_3
  have ac8_a2_4 := fun o => keepa o c8_a2_4
  have ac8_a2_5 := fun o => keepa o c8_a2_5
  have rP0 := P0.out.below hb'; clear P0; have P0 := Lib.hid rP0; clear rP0
  have rP1 := P1.out.below hb'; clear P1; have P1 := Lib.hid rP1; clear rP1
  have rP2 := P2.out.below hb'; clear P2; have P2 := Lib.hid rP2; clear rP2
  have rFo30 := Fo30.out.below hb'; clear Fo30; have Fo30 := Lib.hid rFo30; clear rFo30
  have rB := below_chain B.out (by omega) hb'; clear B; have B := Lib.hid rB; clear rB
  have Fo32 := Lib.hid q8; clear q8
  clear hb hb'
  go_wp2_with fail
  refine (toFormula_c _ _ _ _ _ _ _ _ _ _ _ _ _ _ _ _ (by exact ((P1.out.rd).alloc _)) (by omega) (by omega) (by omega) hI0_a1 hI1_a1).mono ?_
  rintro e w9 ⟨g033, js034, g135, js136, g237, rfl, hx0_9, hx1_9, q9, hb⟩
  try simp only [World.size_alloc] at q9
  have hb' : Below w8.heap.size w8 w9 := (by first | (with_reducible exact hb) | (with_reducible exact up1 hb) | (with_reducible exact up2 hb) | (with_reducible exact up3 hb) | (with_reducible exact up4 hb) | (with_reducible exact below_of_drew hb) | (with_reducible exact below_of_drew (up1 hb)))
  have z9 := hb'.size
  have c9_a0_0 : w9.cell? ⟨w.heap.size, 0, none⟩ = some (.int .i64 sy0) := keepc hb' c8_a0_0
  clear c8_a0_0 ac8_a0_0
  have c9_a0_1 : w9.cell? ⟨w.heap.size, 1, none⟩ = some (.int .i64 st0) := keepc hb' c8_a0_1
  clear c8_a0_1 ac8_a0_1
  have c9_a0_2 : w9.cell? ⟨w.heap.size, 2, none⟩ = some (.slice A0 n0 c0) := keepc hb' c8_a0_2
  clear c8_a0_2 ac8_a0_2
  have c9_a1_0 : w9.cell? ⟨(w.heap.size + 1), 0, none⟩ = some (.int .i64 st1) := keepc hb' c8_a1_0
  clear c8_a1_0 ac8_a1_0
  have c9_a1_1 : w9.cell? ⟨(w.heap.size + 1), 1, none⟩ = some (.int .i64 hd1) := keepc hb' c8_a1_1
  clear c8_a1_1 ac8_a1_1
  have c9_a1_2 : w9.cell? ⟨(w.heap.size + 1), 2, none⟩ = some (.int .i64 at1) := keepc hb' c8_a1_2
  clear c8_a1_2 ac8_a1_2
  have c9_a1_3 : w9.cell? ⟨(w.heap.size + 1), 3, none⟩ = some (.slice A1 n1 c1) := keepc hb' c8_a1_3
  clear c8_a1_3 ac8_a1_3
  have c9_a1_4 : w9.cell? ⟨(w.heap.size + 1), 4, none⟩ = some (.slice B1 m1 d1) := keepc hb' c8_a1_4
  clear c8_a1_4 ac8_a1_4
  have c9_a1_5 : w9.cell? ⟨(w.heap.size + 1), 5, none⟩ = some (.slice C1 k1 e1) := keepc hb' c8_a1_5
  clear c8_a1_5 ac8_a1_5
  have c9_a2_0 : w9.cell? ⟨(w.heap.size + 1 + 1), 0, none⟩ = some (.int .i64 st2) := keepc hb' c8_a2_0
  clear c8_a2_0 ac8_a2_0
  have c9_a2_1 : w9.cell? ⟨(w.heap.size + 1 + 1), 1, none⟩ = some (.int .i64 hd2) := keepc hb' c8_a2_1
  clear c8_a2_1 ac8_a2_1
  have c9_a2_2 : w9.cell? ⟨(w.heap.size + 1 + 1), 2, none⟩ = some (.int .i64 at2) := keepc hb' c8_a2_2
  clear c8_a2_2 ac8_a2_2
  have c9_a2_3 : w9.cell? ⟨(w.heap.size + 1 + 1), 3, none⟩ = some (.slice A2 n2 c2) := keepc hb' c8_a2_3
  clear c8_a2_3 ac8_a2_3
  have c9_a2_4 : w9.cell? ⟨(w.heap.size + 1 + 1), 4, none⟩ = some (.slice B2 m2 d2) := keepc hb' c8_a2_4
  clear c8_a2_4 ac8_a2_4
  have c9_a2_5 : w9.cell? ⟨(w.heap.size + 1 + 1), 5, none⟩ = some (.slice C2 k2 e2) := keepc hb' c8_a2_5
  clear c8_a2_5 ac8_a2_5
  have c9_o32_0 : w9.cell? ⟨w8.heap.size, 0, none⟩ = some (.int .i64 sy0) := keepc hb (by first | (simp; done) | (rw [World.cell?_alloc_past _ _ _ (by simp <;> omega)]; simp; done) | (rw [World.cell?_alloc_past _ _ _ (by simp <;> omega), World.cell?_alloc_past _ _ _ (by simp <;> omega)]; simp; done) | (rw [World.cell?_alloc_past _ _ _ (by simp <;> omega), World.cell?_alloc_past _ _ _ (by simp <;> omega), World.cell?_alloc_past _ _ _ (by simp <;> omega)]; simp; done) | (rw [World.cell?_alloc_at _ _ _ _ (by simp)]; simp; done) | (rw [World.cell?_alloc_past _ _ _ (by simp <;> omega), World.cell?_alloc_at _ _ _ _ (by simp)]; simp; done) | (rw [World.cell?_alloc_past _ _ _ (by simp <;> omega), World.cell?_alloc_past _ _ _ (by simp <;> omega), World.cell?_alloc_at _ _ _ _ (by simp)]; simp; done) | (rw [World.cell?_alloc_past _ _ _ (by simp <;> omega), World.cell?_alloc_past _ _ _ (by simp <;> omega), World.cell?_alloc_past _ _ _ (by simp <;> omega), World.cell?_alloc_at _ _ _ _ (by simp)]; simp; done))
  have hl_c9_o32_0 : w8.heap.size < w9.heap.size := World.block_lt_of_cell? w9 _ c9_o32_0
  have c9_o32_1 : w9.cell? ⟨w8.heap.size, 1, none⟩ = some (.int .i64 st0) := keepc hb (by first | (simp; done) | (rw [World.cell?_alloc_past _ _ _ (by simp <;> omega)]; simp; done) | (rw [World.cell?_alloc_past _ _ _ (by simp <;> omega), World.cell?_alloc_past _ _ _ (by simp <;> omega)]; simp; done) | (rw [World.cell?_alloc_past _ _ _ (by simp <;> omega), World.cell?_alloc_past _ _ _ (by simp <;> omega), World.cell?_alloc_past _ _ _ (by simp <;> omega)]; simp; done) | (rw [World.cell?_alloc_at _ _ _ _ (by simp)]; simp; done) | (rw [World.cell?_alloc_past _ _ _ (by simp <;> omega), World.cell?_alloc_at _ _ _ _ (by simp)]; simp; done) | (rw [World.cell?_alloc_past _ _ _ (by simp <;> omega), World.cell?_alloc_past _ _ _ (by simp <;> omega), World.cell?_alloc_at _ _ _ _ (by simp)]; simp; done) | (rw [World.cell?_alloc_past _ _ _ (by simp <;> omega), World.cell?_alloc_past _ _ _ (by simp <;> omega), World.cell?_alloc_past _ _ _ (by simp <;> omega), World.cell?_alloc_at _ _ _ _ (by simp)]; simp; done))
  have c9_o32_2 : w9.cell? ⟨w8.heap.size, 2, none⟩ = some (.slice (some ⟨g031, 0, none⟩) n0 n0) := keepc hb (by first | (simp; done) | (rw [World.cell?_alloc_past _ _ _ (by simp <;> omega)]; simp; done) | (rw [World.cell?_alloc_past _ _ _ (by simp <;> omega), World.cell?_alloc_past _ _ _ (by simp <;> omega)]; simp; done) | (rw [World.cell?_alloc_past _ _ _ (by simp <;> omega), World.cell?_alloc_past _ _ _ (by simp <;> omega), World.cell?_alloc_past _ _ _ (by simp <;> omega)]; simp; done) | (rw [World.cell?_alloc_at _ _ _ _ (by simp)]; simp; done) | (rw [World.cell?_alloc_past _ _ _ (by simp <;> omega), World.cell?_alloc_at _ _ _ _ (by simp)]; simp; done) | (rw [World.cell?_alloc_past _ _ _ (by simp <;> omega), World.cell?_alloc_past _ _ _ (by simp <;> omega), World.cell?_alloc_at _ _ _ _ (by simp)]; simp; done) | (rw [World.cell?_alloc_past _ _ _ (by simp <;> omega), World.cell?_alloc_past _ _ _ (by simp <;> omega), World.cell?_alloc_past _ _ _ (by simp <;> omega), World.cell?_alloc_at _ _ _ _ (by simp)]; simp; done))
  have ac9_a0_0 := fun o => keepa o c9_a0_0
  have ac9_a0_1 := fun o => keepa o c9_a0_1
  have ac9_a0_2 := fun o => keepa o c9_a0_2
  have ac9_a1_0 := fun o => keepa o c9_a1_0
  have ac9_a1_1 := fun o => keepa o c9_a1_1
  have ac9_a1_2 := fun o => keepa o c9_a1_2
  have ac9_a1_3 := fun o => keepa o c9_a1_3
  have ac9_a1_4 := fun o => keepa o c9_a1_4
  have ac9_a1_5 := fun o => keepa o c9_a1_5
  have ac9_a2_0 := fun o => keepa o c9_a2_0
  have ac9_a2_1 := fun o => keepa o c9_a2_1
  have ac9_a2_2 := fun o => keepa o c9_a2_2
  have ac9_a2_3 := fun o => keepa o c9_a2_3
  have ac9_a2_4 := fun o => keepa o c9_a2_4
  have ac9_a2_5 := fun o => keepa o c9_a2_5
  have ac9_o32_0 := fun o => keepa o c9_o32_0
  have ac9_o32_1 := fun o => keepa o c9_o32_1
  have ac9_o32_2 := fun o => keepa o c9_o32_2
  have rP0 := P0.out.below hb'; clear P0; have P0 := Lib.hid rP0; clear rP0
  have rP1 := P1.out.below hb'; clear P1; have P1 := Lib.hid rP1; clear rP1
  have rP2 := P2.out.below hb'; clear P2; have P2 := Lib.hid rP2; clear rP2
  have rFo30 := Fo30.out.below hb'; clear Fo30; have Fo30 := Lib.hid rFo30; clear rFo30
  have rFo32 := Fo32.out.below hb'; clear Fo32; have Fo32 := Lib.hid rFo32; clear rFo32
  have rB := below_chain B.out (by omega) hb'; clear B; have B := Lib.hid rB; clear rB
  have Fo38 := Lib.hid q9; clear q9
  have hm0_o38 := hx0_9
  have hI0_o38 : ∀ t ∈ js034, t.n ≤ 1000000000 := hi_of ((P1.out.rd).left.left) ((Fo38.out.rd).left.left) hx0_9 hI0_a1
  have hSm0_o38 : sumN js034 ≤ sumN its1 := sum_of ((P1.out.rd).left.left) ((Fo38.out.rd).left.left) hx0_9
  have hm1_o38 := hx1_9
  have hI1_o38 : ∀ t ∈ js136, t.n ≤ 1000000000 := hi_of ((P1.out.rd).left.right) ((Fo38.out.rd).left.right) hx1_9 hI1_a1
  have hSm1_o38 : sumN js136 ≤ sumN jts1 := sum_of ((P1.out.rd).left.right) ((Fo38.out.rd).left.right) hx1_9
  clear hb hb'
  go_wp2_with fail
  refine (toFormula_c _ _ _ _ _ _ _ _ _ _ _ _ _ _ _ _ (by exact ((P2.out.rd).alloc _)) (by omega) (by omega) (by omega) hI0_a2 hI1_a2).mono ?_
  rintro e w10 ⟨g039, js040, g141, js142, g243, rfl, hx0_10, hx1_10, q10, hb⟩
  try simp only [World.size_alloc] at q10
  have hb' : Below w9.heap.size w9 w10 := (by first | (with_reducible exact hb) | (with_reducible exact up1 hb) | (with_reducible exact up2 hb) | (with_reducible exact up3 hb) | (with_reducible exact up4 hb) | (with_reducible exact below_of_drew hb) | (with_reducible exact below_of_drew (up1 hb)))
  have z10 := hb'.size
  have c10_a0_0 : w10.cell? ⟨w.heap.size, 0, none⟩ = some (.int .i64 sy0) := keepc hb' c9_a0_0
  clear c9_a0_0 ac9_a0_0
  have c10_a0_1 : w10.cell? ⟨w.heap.size, 1, none⟩ = some (.int .i64 st0) := keepc hb' c9_a0_1
  clear c9_a0_1 ac9_a0_1
  have c10_a0_2 : w10.cell? ⟨w.heap.size, 2, none⟩ = some (.slice A0 n0 c0) := keepc hb' c9_a0_2
  clear c9_a0_2 ac9_a0_2
  have c10_a1_0 : w10.cell? ⟨(w.heap.size + 1), 0, none⟩ = some (.int .i64 st1) := keepc hb' c9_a1_0
  clear c9_a1_0 ac9_a1_0
  have c10_a1_1 : w10.cell? ⟨(w.heap.size + 1), 1, none⟩ = some (.int .i64 hd1) := keepc hb' c9_a1_1
  clear c9_a1_1 ac9_a1_1
  have c10_a1_2 : w10.cell? ⟨(w.heap.size + 1), 2, none⟩ = some (.int .i64 at1) := keepc hb' c9_a1_2
  clear c9_a1_2 ac9_a1_2
  have c10_a1_3 : w10.cell? ⟨(w.heap.size + 1), 3, none⟩ = some (.slice A1 n1 c1) := keepc hb' c9_a1_3
  clear c9_a1_3 ac9_a1_3
  have c10_a1_4 : w10.cell? ⟨(w.heap.size + 1), 4, none⟩ = some (.slice B1 m1 d1) := keepc hb' c9_a1_4
  clear c9_a1_4 ac9_a1_4
  have c10_a1_5 : w10.cell? ⟨(w.heap.size + 1), 5, none⟩ = some (.slice C1 k1 e1) := keepc hb' c9_a1_5
  clear c9_a1_5 ac9_a1_5
  have c10_a2_0 : w10.cell? ⟨(w.heap.size + 1 + 1), 0, none⟩ = some (.int .i64 st2) := keepc hb' c9_a2_0
  clear c9_a2_0 ac9_a2_0
  have c10_a2_1 : w10.cell? ⟨(w.heap.size + 1 + 1), 1, none⟩ = some (.int .i64 hd2) := keepc hb' c9_a2_1
  clear c9_a2_1 ac9_a2_1
  have c10_a2_2 : w10.cell? ⟨(w.heap.size + 1 + 1), 2, none⟩ = some (.int .i64 at2) := keepc hb' c9_a2_2
  clear c9_a2_2 ac9_a2_2
  have c10_a2_3 : w10.cell? ⟨(w.heap.size + 1 + 1), 3, none⟩ = some (.slice A2 n2 c2) := keepc hb' c9_a2_3
  clear c9_a2_3 ac9_a2_3
  have c10_a2_4 : w10.cell? ⟨(w.heap.size + 1 + 1), 4, none⟩ = some (.slice B2 m2 d2) := keepc hb' c9_a2_4
  clear c9_a2_4 ac9_a2_4
  have c10_a2_5 : w10.cell? ⟨(w.heap.size + 1 + 1), 5, none⟩ = some (.slice C2 k2 e2) := keepc hb' c9_a2_5
  clear c9_a2_5 ac9_a2_5
  have c10_o32_0 : w10.cell? ⟨w8.heap.size, 0, none⟩ = some (.int .i64 sy0) := keepc hb' c9_o32_0
  clear c9_o32_0 ac9_o32_0
  have c10_o32_1 : w10.cell? ⟨w8.heap.size, 1, none⟩ = some (.int .i64 st0) := keepc hb' c9_o32_1
  clear c9_o32_1 ac9_o32_1
  have c10_o32_2 : w10.cell? ⟨w8.heap.size, 2, none⟩ = some (.slice (some ⟨g031, 0, none⟩) n0 n0) := keepc hb' c9_o32_2
  clear c9_o32_2 ac9_o32_2
  have c10_o38_0 : w10.cell? ⟨w9.heap.size, 0, none⟩ = some (.int .i64 st1) := keepc hb (by first | (simp; done) | (rw [World.cell?_alloc_past _ _ _ (by simp <;> omega)]; simp; done) | (rw [World.cell?_alloc_past _ _ _ (by simp <;> omega), World.cell?_alloc_past _ _ _ (by simp <;> omega)]; simp; done) | (rw [World.cell?_alloc_past _ _ _ (by simp <;> omega), World.cell?_alloc_past _ _ _ (by simp <;> omega), World.cell?_alloc_past _ _ _ (by simp <;> omega)]; simp; done) | (rw [World.cell?_alloc_at _ _ _ _ (by simp)]; simp; done) | (rw [World.cell?_alloc_past _ _ _ (by simp <;> omega), World.cell?_alloc_at _ _ _ _ (by simp)]; simp; done) | (rw [World.cell?_alloc_past _ _ _ (by simp <;> omega), World.cell?_alloc_past _ _ _ (by simp <;> omega), World.cell?_alloc_at _ _ _ _ (by simp)]; simp; done) | (rw [World.cell?_alloc_past _ _ _ (by simp <;> omega), World.cell?_alloc_past _ _ _ (by simp <;> omega), World.cell?_alloc_past _ _ _ (by simp <;> omega), World.cell?_alloc_at _ _ _ _ (by simp)]; simp; done))
  have hl_c10_o38_0 : w9.heap.size < w10.heap.size := World.block_lt_of_cell? w10 _ c10_o38_0
  have c10_o38_1 : w10.cell? ⟨w9.heap.size, 1, none⟩ = some (.int .i64 hd1) := keepc hb (by first | (simp; done) | (rw [World.cell?_alloc_past _ _ _ (by simp <;> omega)]; simp; done) | (rw [World.cell?_alloc_past _ _ _ (by simp <;> omega), World.cell?_alloc_past _ _ _ (by simp <;> omega)]; simp; done) | (rw [World.cell?_alloc_past _ _ _ (by simp <;> omega), World.cell?_alloc_past _ _ _ (by simp <;> omega), World.cell?_alloc_past _ _ _ (by simp <;> omega)]; simp; done) | (rw [World.cell?_alloc_at _ _ _ _ (by simp)]; simp; done) | (rw [World.cell?_alloc_past _ _ _ (by simp <;> omega), World.cell?_alloc_at _ _ _ _ (by simp)]; simp; done) | (rw [World.cell?_alloc_past _ _ _ (by simp <;> omega), World.cell?_alloc_past _ _ _ (by simp <;> omega), World.cell?_alloc_at _ _ _ _ (by simp)]; simp; done) | (rw [World.cell?_alloc_past _ _ _ (by simp <;> omega), World.cell?_alloc_past _ _ _ (by simp <;> omega), World.cell?_alloc_past _ _ _ (by simp <;> omega), World.cell?_alloc_at _ _ _ _ (by simp)]; simp; done))
  have c10_o38_2 : w10.cell? ⟨w9.heap.size, 2, none⟩ = some (.int .i64 at1) := keepc hb (by first | (simp; done) | (rw [World.cell?_alloc_past _ _ _ (by simp <;> omega)]; simp; done) | (rw [World.cell?_alloc_past _ _ _ (by simp <;> omega), World.cell?_alloc_past _ _ _ (by simp <;> omega)]; simp; done) | (rw [World.cell?_alloc_past _ _ _ (by simp <;> omega), World.cell?_alloc_past _ _ _ (by simp <;> omega), World.cell?_alloc_past _ _ _ (by simp <;> omega)]; simp; done) | (rw [World.cell?_alloc_at _ _ _ _ (by simp)]; simp; done) | (rw [World.cell?_alloc_past _ _ _ (by simp <;> omega), World.cell?_alloc_at _ _ _ _ (by simp)]; simp; done) | (rw [World.cell?_alloc_past _ _ _ (by simp <;> omega), World.cell?_alloc_past _ _ _ (by simp <;> omega), World.cell?_alloc_at _ _ _ _ (by simp)]; simp; done) | (rw [World.cell?_alloc_past _ _ _ (by simp <;> omega), World.cell?_alloc_past _ _ _ (by simp <;> omega), World.cell?_alloc_past _ _ _ (by simp <;> omega), World.cell?_alloc_at _ _ _ _ (by simp)]; simp; done))
  have c10_o38_3 : w10.cell? ⟨w9.heap.size, 3, none⟩ = some (.slice (some ⟨g033, 0, none⟩) n1 n1) := keepc hb (by first | (simp; done) | (rw [World.cell?_alloc_past _ _ _ (by simp <;> omega)]; simp; done) | (rw [World.cell?_alloc_past _ _ _ (by simp <;> omega), World.cell?_alloc_past _ _ _ (by simp <;> omega)]; simp; done) | (rw [World.cell?_alloc_past _ _ _ (by simp <;> omega), World.cell?_alloc_past _ _ _ (by simp <;> omega), World.cell?_alloc_past _ _ _ (by simp <;> omega)]; simp; done) | (rw [World.cell?_alloc_at _ _ _ _ (by simp)]; simp; done) | (rw [World.cell?_alloc_past _ _ _ (by simp <;> omega), World.cell?_alloc_at _ _ _ _ (by simp)]; simp; done) | (rw [World.cell?_alloc_past _ _ _ (by simp <;> omega), World.cell?_alloc_past _ _ _ (by simp <;> omega), World.cell?_alloc_at _ _ _ _ (by simp)]; simp; done) | (rw [World.cell?_alloc_past _ _ _ (by simp <;> omega), World.cell?_alloc_past _ _ _ (by simp <;> omega), World.cell?_alloc_past _ _ _ (by simp <;> omega), World.cell?_alloc_at _ _ _ _ (by simp)]; simp; done))
  have c10_o38_4 : w10.cell? ⟨w9.heap.size, 4, none⟩ = some (.slice (some ⟨g135, 0, none⟩) m1 m1) := keepc hb (by first | (simp; done) | (rw [World.cell?_alloc_past _ _ _ (by simp <;> omega)]; simp; done) | (rw [World.cell?_alloc_past _ _ _ (by simp <;> omega), World.cell?_alloc_past _ _ _ (by simp <;> omega)]; simp; done) | (rw [World.cell?_alloc_past _ _ _ (by simp <;> omega), World.cell?_alloc_past _ _ _ (by simp <;> omega), World.cell?_alloc_past _ _ _ (by simp <;> omega)]; simp; done) | (rw [World.cell?_alloc_at _ _ _ _ (by simp)]; simp; done) | (rw [World.cell?_alloc_past _ _ _ (by simp <;> omega), World.cell?_alloc_at _ _ _ _ (by simp)]; simp; done) | (rw [World.cell?_alloc_past _ _ _ (by simp <;> omega), World.cell?_alloc_past _ _ _ (by simp <;> omega), World.cell?_alloc_at _ _ _ _ (by simp)]; simp; done) | (rw [World.cell?_alloc_past _ _ _ (by simp <;> omega), World.cell?_alloc_past _ _ _ (by simp <;> omega), World.cell?_alloc_past _ _ _ (by simp <;> omega), World.cell?_alloc_at _ _ _ _ (by simp)]; simp; done))
  have c10_o38_5 : w10.cell? ⟨w9.heap.size, 5, none⟩ = some (.slice (some ⟨g237, 0, none⟩) k1 k1) := keepc hb (by first | (simp; done) | (rw [World.cell?_alloc_past _ _ _ (by simp <;> omega)]; simp; done) | (rw [World.cell?_alloc_past _ _ _ (by simp <;> omega), World.cell?_alloc_past _ _ _ (by simp <;> omega)]; simp; done) | (rw [World.cell?_alloc_past _ _ _ (by simp <;> omega), World.cell?_alloc_past _ _ _ (by simp <;> omega), World.cell?_alloc_past _ _ _ (by simp <;> omega)]; simp; done) | (rw [World.cell?_alloc_at _ _ _ _ (by simp)]; simp; done) | (rw [World.cell?_alloc_past _ _ _ (by simp <;> omega), World.cell?_alloc_at _ _ _ _ (by simp)]; simp; done) | (rw [World.cell?_alloc_past _ _ _ (by simp <;> omega), World.cell?_alloc_past _ _ _ (by simp <;> omega), World.cell?_alloc_at _ _ _ _ (by simp)]; simp; done) | (rw [World.cell?_alloc_past _ _ _ (by simp <;> omega), World.cell?_alloc_past _ _ _ (by simp <;> omega), World.cell?_alloc_past _ _ _ (by simp <;> omega), World.cell?_alloc_at _ _ _ _ (by simp)]; simp; done))
  have ac10_a0_0 := fun o => keepa o c10_a0_0
  have ac10_a0_1 := fun o => keepa o c10_a0_1
  have ac10_a0_2 := fun o => keepa o c10_a0_2
  have ac10_a1_0 := fun o => keepa o c10_a1_0
  have ac10_a1_1 := fun o => keepa o c10_a1_1
  have ac10_a1_2 := fun o => keepa o c10_a1_2
  have ac10_a1_3 := fun o => keepa o c10_a1_3
  have ac10_a1_4 := fun o => keepa o c10_a1_4
  have ac10_a1_5 := fun o => keepa o c10_a1_5
  have ac10_a2_0 := fun o => keepa o c10_a2_0
  have ac10_a2_1 := fun o => keepa o c10_a2_1
  have ac10_a2_2 := fun o => keepa o c10_a2_2
  have ac10_a2_3 := fun o => keepa o c10_a2_3
  have ac10_a2_4 := fun o => keepa o c10_a2_4
  have ac10_a2_5 := fun o => keepa o c10_a2_5
  have ac10_o32_0 := fun o => keepa o c10_o32_0
  have ac10_o32_1 := fun o => keepa o c10_o32_1
  have ac10_o32_2 := fun o => keepa o c10_o32_2
  have ac10_o38_0 := fun o => keepa o c10_o38_0
  have ac10_o38_1 := fun o => keepa o c10_o38_1
  have ac10_o38_2 := fun o => keepa o c10_o38_2
  have ac10_o38_3 := fun o => keepa o c10_o38_3
  have ac10_o38_4 := fun o => keepa o c10_o38_4
  have ac10_o38_5 := fun o => keepa o c10_o38_5
  have rP0 := P0.out.below hb'; clear P0; have P0 := Lib.hid rP0; clear rP0
  have rP1 := P1.out.below hb'; clear P1; have P1 := Lib.hid rP1; clear rP1
  have rP2 := P2.out.below hb'; clear P2; have P2 := Lib.hid rP2; clear rP2
  have rFo30 := Fo30.out.below hb'; clear Fo30; have Fo30 := Lib.hid rFo30; clear rFo30
  have rFo32 := Fo32.out.below hb'; clear Fo32; have Fo32 := Lib.hid rFo32; clear rFo32
  have rFo38 := Fo38.out.below hb'; clear Fo38; have Fo38 := Lib.hid rFo38; clear rFo38
  have rB := below_chain B.out (by omega) hb'; clear B; have B := Lib.hid rB; clear rB
  have Fo44 := Lib.hid q10; clear q10
  have hm0_o44 := hx0_10
  have hI0_o44 : ∀ t ∈ js040, t.n ≤ 1000000000 := hi_of ((P2.out.rd).left.left) ((Fo44.out.rd).left.left) hx0_10 hI0_a2
  have hSm0_o44 : sumN js040 ≤ sumN its2 := sum_of ((P2.out.rd).left.left) ((Fo44.out.rd).left.left) hx0_10
  have hm1_o44 := hx1_10
  have hI1_o44 : ∀ t ∈ js142, t.n ≤ 1000000000 := hi_of ((P2.out.rd).left.right) ((Fo44.out.rd).left.right) hx1_10 hI1_a2
  have hSm1_o44 : sumN js142 ≤ sumN jts2 := sum_of ((P2.out.rd).left.right) ((Fo44.out.rd).left.right) hx1_10
  clear hb hb'
  go_wp2_with fail
  refine (iGrowthOf_c _ _ _ _ _ _ _ _ _ _ _ _ _ _ _ _ _ _ _ _ _ _ _ _ _ _ _ _ _ _ _ _ _ _ _ _ _ (by exact ((Fo32.out.rd).alloc _)) (by exact ((Fo38.out.rd).alloc _)) (by exact ((Fo44.out.rd).alloc _)) (by omega) (by omega) (by omega) (by omega) (by omega) (by omega) (by omega) hI0_o38 hI1_o38 hI0_o44 hI1_o44 hm0_o38 hm1_o38 hm0_o44 hm1_o44 HRR.out).mono ?_
  rintro e w11 ⟨A45, n46, c47, rfl, q48, l49, hb⟩
  try simp only [World.size_alloc] at q48
  have hb' : Below w10.heap.size w10 w11 := (by first | (with_reducible exact hb) | (with_reducible exact up1 hb) | (with_reducible exact up2 hb) | (with_reducible exact up3 hb) | (with_reducible exact up4 hb) | (with_reducible exact below_of_drew hb) | (with_reducible exact below_of_drew (up1 hb)))
  have z11 := hb'.size
  have c11_a0_0 : w11.cell? ⟨w.heap.size, 0, none⟩ = some (.int .i64 sy0) := keepc hb' c10_a0_0
  clear c10_a0_0 ac10_a0_0
  have c11_a0_1 : w11.cell? ⟨w.heap.size, 1, none⟩ = some (.int .i64 st0) := keepc hb' c10_a0_1
  clear c10_a0_1 ac10_a0_1
  have c11_a0_2 : w11.cell? ⟨w.heap.size, 2, none⟩ = some (.slice A0 n0 c0) := keepc hb' c10_a0_2
  clear c10_a0_2 ac10_a0_2
  have c11_a1_0 : w11.cell? ⟨(w.heap.size + 1), 0, none⟩ = some (.int .i64 st1) := keepc hb' c10_a1_0
  clear c10_a1_0 ac10_a1_0
  have c11_a1_1 : w11.cell? ⟨(w.heap.size + 1), 1, none⟩ = some (.int .i64 hd1) := keepc hb' c10_a1_1
  clear c10_a1_1 ac10_a1_1
  have c11_a1_2 : w11.cell? ⟨(w.heap.size + 1), 2, none⟩ = some (.int .i64 at1) := keepc hb' c10_a1_2
  clear c10_a1_2 ac10_a1_2
  have c11_a1_3 : w11.cell? ⟨(w.heap.size + 1), 3, none⟩ = some (.slice A1 n1 c1) := keepc hb' c10_a1_3
  clear c10_a1_3 ac10_a1_3
  have c11_a1_4 : w11.cell? ⟨(w.heap.size + 1), 4, none⟩ = some (.slice B1 m1 d1) := keepc hb' c10_a1_4
  clear c10_a1_4 ac10_a1_4
  have c11_a1_5 : w11.cell? ⟨(w.heap.size + 1), 5, none⟩ = some (.slice C1 k1 e1) := keepc hb' c10_a1_5
  clear c10_a1_5 ac10_a1_5
  have c11_a2_0 : w11.cell? ⟨(w.heap.size + 1 + 1), 0, none⟩ = some (.int .i64 st2) := keepc hb' c10_a2_0
  clear c10_a2_0 ac10_a2_0
  have c11_a2_1 : w11.cell? ⟨(w.heap.size + 1 + 1), 1, none⟩ = some (.int .i64 hd2) := keepc hb' c10_a2_1
  clear c10_a2_1 ac10_a2_1
  have c11_a2_2 : w11.cell? ⟨(w.heap.size + 1 + 1), 2, none⟩ = some (.int .i64 at2) := keepc hb' c10_a2_2
  clear c10_a2_2 ac10_a2_2
  have c11_a2_3 : w11.cell? ⟨(w.heap.size + 1 + 1), 3, none⟩ = some (.slice A2 n2 c2) := keepc hb' c10_a2_3
  clear c10_a2_3 ac10_a2_3
  have c11_a2_4 : w11.cell? ⟨(w.heap.size + 1 + 1), 4, none⟩ = some (.slice B2 m2 d2) := keepc hb' c10_a2_4
  clear c10_a2_4 ac10_a2_4
  have c11_a2_5 : w11.cell? ⟨(w.heap.size + 1 + 1), 5, none⟩ = some (.slice C2 k2 e2) := keepc hb' c10_a2_5
  clear c10_a2_5 ac10_a2_5
  have c11_o32_0 : w11.cell? ⟨w8.heap.size, 0, none⟩ = some (.int .i64 sy0) := keepc hb' c10_o32_0
  clear c10_o32_0 ac10_o32_0
  have c11_o32_1 : w11.cell? ⟨w8.heap.size, 1, none⟩ = some (.int .i64 st0) := keepc hb' c10_o32_1
  clear c10_o32_1 ac10_o32_1
  have c11_o32_2 : w11.cell? ⟨w8.heap.size, 2, none⟩ = some (.slice (some ⟨g031, 0, none⟩) n0 n0) := keepc hb' c10_o32_2
  clear c10_o32_2 ac10_o32_2
  have c11_o38_0 : w11.cell? ⟨w9.heap.size, 0, none⟩ = some (.int .i64 st1) := keepc hb' c10_o38_0
  clear c10_o38_0 ac10_o38_0
  have c11_o38_1 : w11.cell? ⟨w9.heap.size, 1, none⟩ = some (.int .i64 hd1) := keepc hb' c10_o38_1
  clear c10_o38_1 ac10_o38_1
  have c11_o38_2 : w11.cell? ⟨w9.heap.size, 2, none⟩ = some (.int .i64 at1) := keepc hb' c10_o38_2
  clear c10_o38_2 ac10_o38_2
  have c11_o38_3 : w11.cell? ⟨w9.heap.size, 3, none⟩ = some (.slice (some ⟨g033, 0, none⟩) n1 n1) := keepc hb' c10_o38_3
  clear c10_o38_3 ac10_o38_3
  have c11_o38_4 : w11.cell? ⟨w9.heap.size, 4, none⟩ = some (.slice (some ⟨g135, 0, none⟩) m1 m1) := keepc hb' c10_o38_4
  clear c10_o38_4 ac10_o38_4
  have c11_o38_5 : w11.cell? ⟨w9.heap.size, 5, none⟩ = some (.slice (some ⟨g237, 0, none⟩) k1 k1) := keepc hb' c10_o38_5
  clear c10_o38_5 ac10_o38_5
  have c11_o44_0 : w11.cell? ⟨w10.heap.size, 0, none⟩ = some (.int .i64 st2) := keepc hb (by first | (simp; done) | (rw [World.cell?_alloc_past _ _ _ (by simp <;> omega)]; simp; done) | (rw [World.cell?_alloc_past _ _ _ (by simp <;> omega), World.cell?_alloc_past _ _ _ (by simp <;> omega)]; simp; done) | (rw [World.cell?_alloc_past _ _ _ (by simp <;> omega), World.cell?_alloc_past _ _ _ (by simp <;> omega), World.cell?_alloc_past _ _ _ (by simp <;> omega)]; simp; done) | (rw [World.cell?_alloc_at _ _ _ _ (by simp)]; simp; done) | (rw [World.cell?_alloc_past _ _ _ (by simp <;> omega), World.cell?_alloc_at _ _ _ _ (by simp)]; simp; done) | (rw [World.cell?_alloc_past _ _ _ (by simp <;> omega), World.cell?_alloc_past _ _ _ (by simp <;> omega), World.cell?_alloc_at _ _ _ _ (by simp)]; simp; done) | (rw [World.cell?_alloc_past _ _ _ (by simp <;> omega), World.cell?_alloc_past _ _ _ (by simp <;> omega), World.cell?_alloc_past _ _ _ (by simp <;> omega), World.cell?_alloc_at _ _ _ _ (by simp)]; simp; done))
  have hl_c11_o44_0 : w10.heap.size < w11.heap.size := World.block_lt_of_cell? w11 _ c11_o44_0
  have c11_o44_1 : w11.cell? ⟨w10.heap.size, 1, none⟩ = some (.int .i64 hd2) := keepc hb (by first | (simp; done) | (rw [World.cell?_alloc_past _ _ _ (by simp <;> omega)]; simp; done) | (rw [World.cell?_alloc_past _ _ _ (by simp <;> omega), World.cell?_alloc_past _ _ _ (by simp <;> omega)]; simp; done) | (rw [World.cell?_alloc_past _ _ _ (by simp <;> omega), World.cell?_alloc_past _ _ _ (by simp <;> omega), World.cell?_alloc_past _ _ _ (by simp <;> omega)]; simp; done) | (rw [World.cell?_alloc_at _ _ _ _ (by simp)]; simp; done) | (rw [World.cell?_alloc_past _ _ _ (by simp <;> omega), World.cell?_alloc_at _ _ _ _ (by simp)]; simp; done) | (rw [World.cell?_alloc_past _ _ _ (by simp <;> omega), World.cell?_alloc_past _ _ _ (by simp <;> omega), World.cell?_alloc_at _ _ _ _ (by simp)]; simp; done) | (rw [World.cell?_alloc_past _ _ _ (by simp <;> omega), World.cell?_alloc_past _ _ _ (by simp <;> omega), World.cell?_alloc_past _ _ _ (by simp <;> omega), World.cell?_alloc_at _ _ _ _ (by simp)]; simp; done))
  have c11_o44_2 : w11.cell? ⟨w10.heap.size, 2, none⟩ = some (.int .i64 at2) := keepc hb (by first | (simp; done) | (rw [World.cell?_alloc_past _ _ _ (by simp <;> omega)]; simp; done) | (rw [World.cell?_alloc_past _ _ _ (by simp <;> omega), World.cell?_alloc_past _ _ _ (by simp <;> omega)]; simp; done) | (rw [World.cell?_alloc_past _ _ _ (by simp <;> omega), World.cell?_alloc_past _ _ _ (by simp <;> omega), World.cell?_alloc_past _ _ _ (by simp <;> omega)]; simp; done) | (rw [World.cell?_alloc_at _ _ _ _ (by simp)]; simp; done) | (rw [World.cell?_alloc_past _ _ _ (by simp <;> omega), World.cell?_alloc_at _ _ _ _ (by simp)]; simp; done) | (rw [World.cell?_alloc_past _ _ _ (by simp <;> omega), World.cell?_alloc_past _ _ _ (by simp <;> omega), World.cell?_alloc_at _ _ _ _ (by simp)]; simp; done) | (rw [World.cell?_alloc_past _ _ _ (by simp <;> omega), World.cell?_alloc_past _ _ _ (by simp <;> omega), World.cell?_alloc_past _ _ _ (by simp <;> omega), World.cell?_alloc_at _ _ _ _ (by simp)]; simp; done))
  have c11_o44_3 : w11.cell? ⟨w10.heap.size, 3, none⟩ = some (.slice (some ⟨g039, 0, none⟩) n2 n2) := keepc hb (by first | (simp; done) | (rw [World.cell?_alloc_past _ _ _ (by simp <;> omega)]; simp; done) | (rw [World.cell?_alloc_past _ _ _ (by simp <;> omega), World.cell?_alloc_past _ _ _ (by simp <;> omega)]; simp; done) | (rw [World.cell?_alloc_past _ _ _ (by simp <;> omega), World.cell?_alloc_past _ _ _ (by simp <;> omega), World.cell?_alloc_past _ _ _ (by simp <;> omega)]; simp; done) | (rw [World.cell?_alloc_at _ _ _ _ (by simp)]; simp; done) | (rw [World.cell?_alloc_past _ _ _ (by simp <;> omega), World.cell?_alloc_at _ _ _ _ (by simp)]; simp; done) | (rw [World.cell?_alloc_past _ _ _ (by simp <;> omega), World.cell?_alloc_past _ _ _ (by simp <;> omega), World.cell?_alloc_at _ _ _ _ (by simp)]; simp; done) | (rw [World.cell?_alloc_past _ _ _ (by simp <;> omega), World.cell?_alloc_past _ _ _ (by simp <;> omega), World.cell?_alloc_past _ _ _ (by simp <;> omega), World.cell?_alloc_at _ _ _ _ (by simp)]; simp; done))
  have c11_o44_4 : w11.cell? ⟨w10.heap.size, 4, none⟩ = some (.slice (some ⟨g141, 0, none⟩) m2 m2) := keepc hb (by first | (simp; done) | (rw [World.cell?_alloc_past _ _ _ (by simp <;> omega)]; simp; done) | (rw [World.cell?_alloc_past _ _ _ (by simp <;> omega), World.cell?_alloc_past _ _ _ (by simp <;> omega)]; simp; done) | (rw [World.cell?_alloc_past _ _ _ (by simp <;> omega), World.cell?_alloc_past _ _ _ (by simp <;> omega), World.cell?_alloc_past _ _ _ (by simp <;> omega)]; simp; done) | (rw [World.cell?_alloc_at _ _ _ _ (by simp)]; simp; done) | (rw [World.cell?_alloc_past _ _ _ (by simp <;> omega), World.cell?_alloc_at _ _ _ _ (by simp)]; simp; done) | (rw [World.cell?_alloc_past _ _ _ (by simp <;> omega), World.cell?_alloc_past _ _ _ (by simp <;> omega), World.cell?_alloc_at _ _ _ _ (by simp)]; simp; done) | (rw [World.cell?_alloc_past _ _ _ (by simp <;> omega), World.cell?_alloc_past _ _ _ (by simp <;> omega), World.cell?_alloc_past _ _ _ (by simp <;> omega), World.cell?_alloc_at _ _ _ _ (by simp)]; simp; done))
  have c11_o44_5 : w11.cell? ⟨w10.heap.size, 5, none⟩ = some (.slice (some ⟨g243, 0, none⟩) k2 k2) := keepc hb (by first | (simp; done) | (rw [World.cell?_alloc_past _ _ _ (by simp <;> omega)]; simp; done) | (rw [World.cell?_alloc_past _ _ _ (by simp <;> omega), World.cell?_alloc_past _ _ _ (by simp <;> omega)]; simp; done) | (rw [World.cell?_alloc_past _ _ _ (by simp <;> omega), World.cell?_alloc_past _ _ _ (by simp <;> omega), World.cell?_alloc_past _ _ _ (by simp <;> omega)]; simp; done) | (rw [World.cell?_alloc_at _ _ _ _ (by simp)]; simp; done) | (rw [World.cell?_alloc_past _ _ _ (by simp <;> omega), World.cell?_alloc_at _ _ _ _ (by simp)]; simp; done) | (rw [World.cell?_alloc_past _ _ _ (by simp <;> omega), World.cell?_alloc_past _ _ _ (by simp <;> omega), World.cell?_alloc_at _ _ _ _ (by simp)]; simp; done) | (rw [World.cell?_alloc_past _ _ _ (by simp <;> omega), World.cell?_alloc_past _ _ _ (by simp <;> omega), World.cell?_alloc_past _ _ _ (by simp <;> omega), World.cell?_alloc_at _ _ _ _ (by simp)]; simp; done))
  have ac11_a0_0 := fun o => keepa o c11_a0_0
  have ac11_a0_1 := fun o => keepa o c11_a0_1
  have ac11_a0_2 := fun o => keepa o c11_a0_2
  have ac11_a1_0 := fun o => keepa o c11_a1_0
  have ac11_a1_1 := fun o => keepa o c11_a1_1
  have ac11_a1_2 := fun o => keepa o c11_a1_2
  have ac11_a1_3 := fun o => keepa o c11_a1_3
  have ac11_a1_4 := fun o => keepa o c11_a1_4
  have ac11_a1_5 := fun o => keepa o c11_a1_5
  have ac11_a2_0 := fun o => keepa o c11_a2_0
  have ac11_a2_1 := fun o => keepa o c11_a2_1
  have ac11_a2_2 := fun o => keepa o c11_a2_2
  have ac11_a2_3 := fun o => keepa o c11_a2_3
  have ac11_a2_4 := fun o => keepa o c11_a2_4
  have ac11_a2_5 := fun o => keepa o c11_a2_5
  have ac11_o32_0 := fun o => keepa o c11_o32_0
  have ac11_o32_1 := fun o => keepa o c11_o32_1
  have ac11_o32_2 := fun o => keepa o c11_o32_2
  have ac11_o38_0 := fun o => keepa o c11_o38_0
  have ac11_o38_1 := fun o => keepa o c11_o38_1
  have ac11_o38_2 := fun o => keepa o c11_o38_2
  have ac11_o38_3 := fun o => keepa o c11_o38_3
  have ac11_o38_4 := fun o => keepa o c11_o38_4
  have ac11_o38_5 := fun o => keepa o c11_o38_5
  have ac11_o44_0 := fun o => keepa o c11_o44_0
  have ac11_o44_1 := fun o => keepa o c11_o44_1
  have ac11_o44_2 := fun o => keepa o c11_o44_2
  have ac11_o44_3 := fun o => keepa o c11_o44_3
  have ac11_o44_4 := fun o => keepa o c11_o44_4
  have ac11_o44_5 := fun o => keepa o c11_o44_5
  have rP0 := P0.out.below hb'; clear P0; have P0 := Lib.hid rP0; clear rP0
  have rP1 := P1.out.below hb'; clear P1; have P1 := Lib.hid rP1; clear rP1
  have rP2 := P2.out.below hb'; clear P2; have P2 := Lib.hid rP2; clear rP2
  have rFo30 := Fo30.out.below hb'; clear Fo30; have Fo30 := Lib.hid rFo30; clear rFo30
  have rFo32 := Fo32.out.below hb'; clear Fo32; have Fo32 := Lib.hid rFo32; clear rFo32
  have rFo38 := Fo38.out.below hb'; clear Fo38; have Fo38 := Lib.hid rFo38; clear rFo38
  have rFo44 := Fo44.out.below hb'; clear Fo44; have Fo44 := Lib.hid rFo44; clear rFo44
  have rB := below_chain B.out (by omega) hb'; clear B; have B := Lib.hid rB; clear rB
  have Fo50 := Lib.hid q48; clear q48
  clear hb hb'
  go_wp2_with fail
  refine (eqInt64S_t _ _ _ _ _ _ _ _ (by exact (Fo50.out.rdI)) (by exact (Fo30.out.rdI)) (by omega)).mono ?_
  rintro e w12 ⟨rfl, hb⟩
  have hb' : Below w11.heap.size w11 w12 := (by first | (with_reducible exact hb) | (with_reducible exact up1 hb) | (with_reducible exact up2 hb) | (with_reducible exact up3 hb) | (with_reducible exact up4 hb) | (with_reducible exact below_of_drew hb) | (with_reducible exact below_of_drew (up1 hb)))
  have z12 := hb'.size
  have c12_a0_0 : w12.cell? ⟨w.heap.size, 0, none⟩ = some (.int .i64 sy0) := keepc hb' c11_a0_0
  clear c11_a0_0 ac11_a0_0
  have c12_a0_1 : w12.cell? ⟨w.heap.size, 1, none⟩ = some (.int .i64 st0) := keepc hb' c11_a0_1
  clear c11_a0_1 ac11_a0_1
  have c12_a0_2 : w12.cell? ⟨w.heap.size, 2, none⟩ = some (.slice A0 n0 c0) := keepc hb' c11_a0_2
  clear c11_a0_2 ac11_a0_2
  have c12_a1_0 : w12.cell? ⟨(w.heap.size + 1), 0, none⟩ = some (.int .i64 st1) := keepc hb' c11_a1_0
  clear c11_a1_0 ac11_a1_0
  have c12_a1_1 : w12.cell? ⟨(w.heap.size + 1), 1, none⟩ = some (.int .i64 hd1) := keepc hb' c11_a1_1
  clear c11_a1_1 ac11_a1_1
  have c12_a1_2 : w12.cell? ⟨(w.heap.size + 1), 2, none⟩ = some (.int .i64 at1) := keepc hb' c11_a1_2
  clear c11_a1_2 ac11_a1_2
  have c12_a1_3 : w12.cell? ⟨(w.heap.size + 1), 3, none⟩ = some (.slice A1 n1 c1) := keepc hb' c11_a1_3
  clear c11_a1_3 ac11_a1_3
  have c12_a1_4 : w12.cell? ⟨(w.heap.size + 1), 4, none⟩ = some (.slice B1 m1 d1) := keepc hb' c11_a1_4
  clear c11_a1_4 ac11_a1_4
  have c12_a1_5 : w12.cell? ⟨(w.heap.size + 1), 5, none⟩ = some (.slice C1 k1 e1) := keepc hb' c11_a1_5
  clear c11_a1_5 ac11_a1_5
  have c12_a2_0 : w12.cell? ⟨(w.heap.size + 1 + 1), 0, none⟩ = some (.int .i64 st2) := keepc hb' c11_a2_0
  clear c11_a2_0 ac11_a2_0
  have c12_a2_1 : w12.cell? ⟨(w.heap.size + 1 + 1), 1, none⟩ = some (.int .i64 hd2) := keepc hb' c11_a2_1
  clear c11_a2_1 ac11_a2_1
  have c12_a2_2 : w12.cell? ⟨(w.heap.size + 1 + 1), 2, none⟩ = some (.int .i64 at2) := keepc hb' c11_a2_2
  clear c11_a2_2 ac11_a2_2
  have c12_a2_3 : w12.cell? ⟨(w.heap.size + 1 + 1), 3, none⟩ = some (.slice A2 n2 c2) := keepc hb' c11_a2_3
  clear c11_a2_3 ac11_a2_3
  have c12_a2_4 : w12.cell? ⟨(w.heap.size + 1 + 1), 4, none⟩ = some (.slice B2 m2 d2) := keepc hb' c11_a2_4
  clear c11_a2_4 ac11_a2_4
  have c12_a2_5 : w12.cell? ⟨(w.heap.size + 1 + 1), 5, none⟩ = some (.slice C2 k2 e2) := keepc hb' c11_a2_5
  clear c11_a2_5 ac11_a2_5
  have c12_o32_0 : w12.cell? ⟨w8.heap.size, 0, none⟩ = some (.int .i64 sy0) := keepc hb' c11_o32_0
  clear c11_o32_0 ac11_o32_0
  have c12_o32_1 : w12.cell? ⟨w8.heap.size, 1, none⟩ = some (.int .i64 st0) := keepc hb' c11_o32_1
  clear c11_o32_1 ac11_o32_1
  have c12_o32_2 : w12.cell? ⟨w8.heap.size, 2, none⟩ = some (.slice (some ⟨g031, 0, none⟩) n0 n0) := keepc hb' c11_o32_2
  clear c11_o32_2 ac11_o32_2
  have c12_o38_0 : w12.cell? ⟨w9.heap.size, 0, none⟩ = some (.int .i64 st1) := keepc hb' c11_o38_0
  clear c11_o38_0 ac11_o38_0
  have c12_o38_1 : w12.cell? ⟨w9.heap.size, 1, none⟩ = some (.int .i64 hd1) := keepc hb' c11_o38_1
  clear c11_o38_1 ac11_o38_1
  have c12_o38_2 : w12.cell? ⟨w9.heap.size, 2, none⟩ = some (.int .i64 at1) := keepc hb' c11_o38_2
  clear c11_o38_2 ac11_o38_2
  have c12_o38_3 : w12.cell? ⟨w9.heap.size, 3, none⟩ = some (.slice (some ⟨g033, 0, none⟩) n1 n1) := keepc hb' c11_o38_3
  clear c11_o38_3 ac11_o38_3
  have c12_o38_4 : w12.cell? ⟨w9.heap.size, 4, none⟩ = some (.slice (some ⟨g135, 0, none⟩) m1 m1) := keepc hb' c11_o38_4
  clear c11_o38_4 ac11_o38_4
  have c12_o38_5 : w12.cell? ⟨w9.heap.size, 5, none⟩ = some (.slice (some ⟨g237, 0, none⟩) k1 k1) := keepc hb' c11_o38_5
  clear c11_o38_5 ac11_o38_5
  have c12_o44_0 : w12.cell? ⟨w10.heap.size, 0, none⟩ = some (.int .i64 st2) := keepc hb' c11_o44_0
  clear c11_o44_0 ac11_o44_0
  have c12_o44_1 : w12.cell? ⟨w10.heap.size, 1, none⟩ = some (.int .i64 hd2) := keepc hb' c11_o44_1
  clear c11_o44_1 ac11_o44_1
  have c12_o44_2 : w12.cell? ⟨w10.heap.size, 2, none⟩ = some (.int .i64 at2) := keepc hb' c11_o44_2
  clear c11_o44_2 ac11_o44_2
  have c12_o44_3 : w12.cell? ⟨w10.heap.size, 3, none⟩ = some (.slice (some ⟨g039, 0, none⟩) n2 n2) := keepc hb' c11_o44_3
  clear c11_o44_3 ac11_o44_3
  have c12_o44_4 : w12.cell? ⟨w10.heap.size, 4, none⟩ = some (.slice (some ⟨g141, 0, none⟩) m2 m2) := keepc hb' c11_o44_4
  clear c11_o44_4 ac11_o44_4
  have c12_o44_5 : w12.cell? ⟨w10.heap.size, 5, none⟩ = some (.slice (some ⟨g243, 0, none⟩) k2 k2) := keepc hb' c11_o44_5
  clear c11_o44_5 ac11_o44_5
  have ac12_a0_0 := fun o => keepa o c12_a0_0
  have ac12_a0_1 := fun o => keepa o c12_a0_1
  have ac12_a0_2 := fun o => keepa o c12_a0_2
  have ac12_a1_0 := fun o => keepa o c12_a1_0
  have ac12_a1_1 := fun o => keepa o c12_a1_1
  have ac12_a1_2 := fun o => keepa o c12_a1_2
  have ac12_a1_3 := fun o => keepa o c12_a1_3
  have ac12_a1_4 := fun o => keepa o c12_a1_4
  have ac12_a1_5 := fun o => keepa o c12_a1_5
  have ac12_a2_0 := fun o => keepa o c12_a2_0
  have ac12_a2_1 := fun o => keepa o c12_a2_1
  have ac12_a2_2 := fun o => keepa o c12_a2_2
  have ac12_a2_3 := fun o => keepa o c12_a2_3
  have ac12_a2_4 := fun o => keepa o c12_a2_4
  have ac12_a2_5 := fun o => keepa o c12_a2_5
  have ac12_o32_0 := fun o => keepa o c12_o32_0
  have ac12_o32_1 := fun o => keepa o c12_o32_1
  have ac12_o32_2 := fun o => keepa o c12_o32_2
  have ac12_o38_0 := fun o => keepa o c12_o38_0
  have ac12_o38_1 := fun o => keepa o c12_o38_1
  have ac12_o38_2 := fun o => keepa o c12_o38_2
  have ac12_o38_3 := fun o => keepa o c12_o38_3
  have ac12_o38_4 := fun o => keepa o c12_o38_4
  have ac12_o38_5 := fun o => keepa o c12_o38_5
  have ac12_o44_0 := fun o => keepa o c12_o44_0
  have ac12_o44_1 := fun o => keepa o c12_o44_1
  have ac12_o44_2 := fun o => keepa o c12_o44_2
  have ac12_o44_3 := fun o => keepa o c12_o44_3
  have ac12_o44_4 := fun o => keepa o c12_o44_4
  have ac12_o44_5 := fun o => keepa o c12_o44_5
  have rP0 := P0.out.below hb'; clear P0; have P0 := Lib.hid rP0; clear rP0
  have rP1 := P1.out.below hb'; clear P1; have P1 := Lib.hid rP1; clear rP1
  have rP2 := P2.out.below hb'; clear P2; have P2 := Lib.hid rP2; clear rP2
  have rFo30 := Fo30.out.below hb'; clear Fo30; have Fo30 := Lib.hid rFo30; clear rFo30
  have rFo32 := Fo32.out.below hb'; clear Fo32; have Fo32 := Lib.hid rFo32; clear rFo32
  have rFo38 := Fo38.out.below hb'; clear Fo38; have Fo38 := Lib.hid rFo38; clear rFo38
  have rFo44 := Fo44.out.below hb'; clear Fo44; have Fo44 := Lib.hid rFo44; clear rFo44
  have rFo50 := Fo50.out.below hb'; clear Fo50; have Fo50 := Lib.hid rFo50; clear rFo50
  have rB := below_chain B.out (by omega) hb'; clear B; have B := Lib.hid rB; clear rB
  clear hb hb'
  go_wp2_with fail
  have fx_c12_a0_0 := Ext.cell c12_a0_0
  have fx_c12_a0_1 := Ext.cell c12_a0_1
  have fx_c12_a0_2 := Ext.cell c12_a0_2
  have fx_c12_a1_0 := Ext.cell c12_a1_0
  have fx_c12_a1_1 := Ext.cell c12_a1_1
  have fx_c12_a1_2 := Ext.cell c12_a1_2
  have fx_c12_a1_3 := Ext.cell c12_a1_3
  have fx_c12_a1_4 := Ext.cell c12_a1_4
  have fx_c12_a1_5 := Ext.cell c12_a1_5
  have fx_c12_a2_0 := Ext.cell c12_a2_0
  have fx_c12_a2_1 := Ext.cell c12_a2_1
  have fx_c12_a2_2 := Ext.cell c12_a2_2
  have fx_c12_a2_3 := Ext.cell c12_a2_3
  have fx_c12_a2_4 := Ext.cell c12_a2_4
  have fx_c12_a2_5 := Ext.cell c12_a2_5
  have fx_c12_o32_0 := Ext.cell c12_o32_0
  have fx_c12_o32_1 := Ext.cell c12_o32_1
  have fx_c12_o32_2 := Ext.cell c12_o32_2
  have fx_c12_o38_0 := Ext.cell c12_o38_0
  have fx_c12_o38_1 := Ext.cell c12_o38_1
  have fx_c12_o38_2 := Ext.cell c12_o38_2
  have fx_c12_o38_3 := Ext.cell c12_o38_3
  have fx_c12_o38_4 := Ext.cell c12_o38_4
  have fx_c12_o38_5 := Ext.cell c12_o38_5
  have fx_c12_o44_0 := Ext.cell c12_o44_0
  have fx_c12_o44_1 := Ext.cell c12_o44_1
  have fx_c12_o44_2 := Ext.cell c12_o44_2
  have fx_c12_o44_3 := Ext.cell c12_o44_3
  have fx_c12_o44_4 := Ext.cell c12_o44_4
  have fx_c12_o44_5 := Ext.cell c12_o44_5
  refine Mix.wp_region_mix [3, 3, 1, 1, 0] (fun w' => ∃ x : Ext w12, w' = x.w) (by kernel_rfl) (by kernel_rfl) (InExt.drew _) ?_
  repeat (first | (refine Mix.wpMix_read (by rfl) ?_; go_big_quiet_step (fail); refine wpQuiet_nil ?_) | (refine Mix.wpMix_pure (by rfl) ?_; go_big_quiet_step (fail); refine wpQuiet_nil ?_))
  refine Mix.wpMix_chg (by rfl) (fun K hK => ?_)
  go_wp2_with fail
  refine (toMachine_c _ _ _ _ _ _ _ (by exact (P0.out.rd)) (by omega)).mono ?_
  rintro e w13 ⟨g051, rfl, q13, hb⟩
  have hb' : Below w12.heap.size w12 w13 := (by first | (with_reducible exact hb) | (with_reducible exact up1 hb) | (with_reducible exact up2 hb) | (with_reducible exact up3 hb) | (with_reducible exact up4 hb) | (with_reducible exact below_of_drew hb) | (with_reducible exact below_of_drew (up1 hb)))
  have z13 := hb'.size
  have c13_a0_0 : w13.cell? ⟨w.heap.size, 0, none⟩ = some (.int .i64 sy0) := keepc hb' c12_a0_0
  clear c12_a0_0 ac12_a0_0
  have c13_a0_1 : w13.cell? ⟨w.heap.size, 1, none⟩ = some (.int .i64 st0) := keepc hb' c12_a0_1
  clear c12_a0_1 ac12_a0_1
  have c13_a0_2 : w13.cell? ⟨w.heap.size, 2, none⟩ = some (.slice A0 n0 c0) := keepc hb' c12_a0_2
  clear c12_a0_2 ac12_a0_2
  have c13_a1_0 : w13.cell? ⟨(w.heap.size + 1), 0, none⟩ = some (.int .i64 st1) := keepc hb' c12_a1_0
  clear c12_a1_0 ac12_a1_0
  have c13_a1_1 : w13.cell? ⟨(w.heap.size + 1), 1, none⟩ = some (.int .i64 hd1) := keepc hb' c12_a1_1
  clear c12_a1_1 ac12_a1_1
  have c13_a1_2 : w13.cell? ⟨(w.heap.size + 1), 2, none⟩ = some (.int .i64 at1) := keepc hb' c12_a1_2
  clear c12_a1_2 ac12_a1_2
  have c13_a1_3 : w13.cell? ⟨(w.heap.size + 1), 3, none⟩ = some (.slice A1 n1 c1) := keepc hb' c12_a1_3
  clear c12_a1_3 ac12_a1_3
  have c13_a1_4 : w13.cell? ⟨(w.heap.size + 1), 4, none⟩ = some (.slice B1 m1 d1) := keepc hb' c12_a1_4
  clear c12_a1_4 ac12_a1_4
  have c13_a1_5 : w13.cell? ⟨(w.heap.size + 1), 5, none⟩ = some (.slice C1 k1 e1) := keepc hb' c12_a1_5
  clear c12_a1_5 ac12_a1_5
  have c13_a2_0 : w13.cell? ⟨(w.heap.size + 1 + 1), 0, none⟩ = some (.int .i64 st2) := keepc hb' c12_a2_0
  clear c12_a2_0 ac12_a2_0
  have c13_a2_1 : w13.cell? ⟨(w.heap.size + 1 + 1), 1, none⟩ = some (.int .i64 hd2) := keepc hb' c12_a2_1
  clear c12_a2_1 ac12_a2_1
  have c13_a2_2 : w13.cell? ⟨(w.heap.size + 1 + 1), 2, none⟩ = some (.int .i64 at2) := keepc hb' c12_a2_2
  clear c12_a2_2 ac12_a2_2
  have c13_a2_3 : w13.cell? ⟨(w.heap.size + 1 + 1), 3, none⟩ = some (.slice A2 n2 c2) := keepc hb' c12_a2_3
  clear c12_a2_3 ac12_a2_3
  have c13_a2_4 : w13.cell? ⟨(w.heap.size + 1 + 1), 4, none⟩ = some (.slice B2 m2 d2) := keepc hb' c12_a2_4
  clear c12_a2_4 ac12_a2_4
  have c13_a2_5 : w13.cell? ⟨(w.heap.size + 1 + 1), 5, none⟩ = some (.slice C2 k2 e2) := keepc hb' c12_a2_5
  clear c12_a2_5 ac12_a2_5
  have c13_o32_0 : w13.cell? ⟨w8.heap.size, 0, none⟩ = some (.int .i64 sy0) := keepc hb' c12_o32_0
  clear c12_o32_0 ac12_o32_0
  have c13_o32_1 : w13.cell? ⟨w8.heap.size, 1, none⟩ = some (.int .i64 st0) := keepc hb' c12_o32_1
  clear c12_o32_1 ac12_o32_1
  have c13_o32_2 : w13.cell? ⟨w8.heap.size, 2, none⟩ = some (.slice (some ⟨g031, 0, none⟩) n0 n0) := keepc hb' c12_o32_2
  clear c12_o32_2 ac12_o32_2
  have c13_o38_0 : w13.cell? ⟨w9.heap.size, 0, none⟩ = some (.int .i64 st1) := keepc hb' c12_o38_0
  clear c12_o38_0 ac12_o38_0
  have c13_o38_1 : w13.cell? ⟨w9.heap.size, 1, none⟩ = some (.int .i64 hd1) := keepc hb' c12_o38_1
  clear c12_o38_1 ac12_o38_1
  have c13_o38_2 : w13.cell? ⟨w9.heap.size, 2, none⟩ = some (.int .i64 at1) := keepc hb' c12_o38_2
  clear c12_o38_2 ac12_o38_2
  have c13_o38_3 : w13.cell? ⟨w9.heap.size, 3, none⟩ = some (.slice (some ⟨g033, 0, none⟩) n1 n1) := keepc hb' c12_o38_3
  clear c12_o38_3 ac12_o38_3
  have c13_o38_4 : w13.cell? ⟨w9.heap.size, 4, none⟩ = some (.slice (some ⟨g135, 0, none⟩) m1 m1) := keepc hb' c12_o38_4
  clear c12_o38_4 ac12_o38_4
  have c13_o38_5 : w13.cell? ⟨w9.heap.size, 5, none⟩ = some (.slice (some ⟨g237, 0, none⟩) k1 k1) := keepc hb' c12_o38_5
  clear c12_o38_5 ac12_o38_5
  have c13_o44_0 : w13.cell? ⟨w10.heap.size, 0, none⟩ = some (.int .i64 st2) := keepc hb' c12_o44_0
  clear c12_o44_0 ac12_o44_0
  have c13_o44_1 : w13.cell? ⟨w10.heap.size, 1, none⟩ = some (.int .i64 hd2) := keepc hb' c12_o44_1
  clear c12_o44_1 ac12_o44_1
  have c13_o44_2 : w13.cell? ⟨w10.heap.size, 2, none⟩ = some (.int .i64 at2) := keepc hb' c12_o44_2
  clear c12_o44_2 ac12_o44_2
  have c13_o44_3 : w13.cell? ⟨w10.heap.size, 3, none⟩ = some (.slice (some ⟨g039, 0, none⟩) n2 n2) := keepc hb' c12_o44_3
  clear c12_o44_3 ac12_o44_3
  have c13_o44_4 : w13.cell? ⟨w10.heap.size, 4, none⟩ = some (.slice (some ⟨g141, 0, none⟩) m2 m2) := keepc hb' c12_o44_4
  clear c12_o44_4 ac12_o44_4
  have c13_o44_5 : w13.cell? ⟨w10.heap.size, 5, none⟩ = some (.slice (some ⟨g243, 0, none⟩) k2 k2) := keepc hb' c12_o44_5
  clear c12_o44_5 ac12_o44_5
  have ac13_a0_0 := fun o => keepa o c13_a0_0
  have ac13_a0_1 := fun o => keepa o c13_a0_1
  have ac13_a0_2 := fun o => keepa o c13_a0_2
  have ac13_a1_0 := fun o => keepa o c13_a1_0
  have ac13_a1_1 := fun o => keepa o c13_a1_1
  have ac13_a1_2 := fun o => keepa o c13_a1_2
  have ac13_a1_3 := fun o => keepa o c13_a1_3
  have ac13_a1_4 := fun o => keepa o c13_a1_4
  have ac13_a1_5 := fun o => keepa o c13_a1_5
  have ac13_a2_0 := fun o => keepa o c13_a2_0
  have ac13_a2_1 := fun o => keepa o c13_a2_1
  have ac13_a2_2 := fun o => keepa o c13_a2_2
  have ac13_a2_3 := fun o => keepa o c13_a2_3
  have ac13_a2_4 := fun o => keepa o c13_a2_4
  have ac13_a2_5 := fun o => keepa o c13_a2_5
  have ac13_o32_0 := fun o => keepa o c13_o32_0
  have ac13_o32_1 := fun o => keepa o c13_o32_1
  have ac13_o32_2 := fun o => keepa o c13_o32_2
  have ac13_o38_0 := fun o => keepa o c13_o38_0
  have ac13_o38_1 := fun o => keepa o c13_o38_1
  have ac13_o38_2 := fun o => keepa o c13_o38_2
  have ac13_o38_3 := fun o => keepa o c13_o38_3
  have ac13_o38_4 := fun o => keepa o c13_o38_4
  have ac13_o38_5 := fun o => keepa o c13_o38_5
  have ac13_o44_0 := fun o => keepa o c13_o44_0
  have ac13_o44_1 := fun o => keepa o c13_o44_1
  have ac13_o44_2 := fun o => keepa o c13_o44_2
  have ac13_o44_3 := fun o => keepa o c13_o44_3
  have ac13_o44_4 := fun o => keepa o c13_o44_4
  have ac13_o44_5 := fun o => keepa o c13_o44_5
  have rP0 := P0.out.below hb'; clear P0; have P0 := Lib.hid rP0; clear rP0
  have rP1 := P1.out.below hb'; clear P1; have P1 := Lib.hid rP1; clear rP1
  have rP2 := P2.out.below hb'; clear P2; have P2 := Lib.hid rP2; clear rP2
  have rFo30 := Fo30.out.below hb'; clear Fo30; have Fo30 := Lib.hid rFo30; clear rFo30
  have rFo32 := Fo32.out.below hb'; clear Fo32; have Fo32 := Lib.hid rFo32; clear rFo32
  have rFo38 := Fo38.out.below hb'; clear Fo38; have Fo38 := Lib.hid rFo38; clear rFo38
  have rFo44 := Fo44.out.below hb'; clear Fo44; have Fo44 := Lib.hid rFo44; clear rFo44
  have rFo50 := Fo50.out.below hb'; clear Fo50; have Fo50 := Lib.hid rFo50; clear rFo50
  have rB := below_chain B.out (by omega) hb'; clear B; have B := Lib.hid rB; clear rB
  have Fo52 := Lib.hid q13; clear q13
  have em13 : Below w12.heap.size w12 w13 := hb'
  clear hb hb'
  go_wp2_with fail
  refine hK _ _ ⟨⟨_, em13⟩, rfl⟩ ?_
  clear hK K
  refine Mix.wpMix_chg (by rfl) (fun K hK => ?_)
  go_wp2_with fail
  refine (eqMachine_t _ _ _ _ _ _ _ _ _ _ (by exact (Fo32.out.rd)) (by exact (Fo52.out.rd)) (by omega)).mono ?_
  rintro e w14 ⟨rfl, hb⟩
  have hb' : Below w13.heap.size w13 w14 := (by first | (with_reducible exact hb) | (with_reducible exact up1 hb) | (with_reducible exact up2 hb) | (with_reducible exact up3 hb) | (with_reducible exact up4 hb) | (with_reducible exact below_of_drew hb) | (with_reducible exact below_of_drew (up1 hb)))
  have z14 := hb'.size
  have c14_a0_0 : w14.cell? ⟨w.heap.size, 0, none⟩ = some (.int .i64 sy0) := keepc hb' c13_a0_0
  clear c13_a0_0 ac13_a0_0
  have c14_a0_1 : w14.cell? ⟨w.heap.size, 1, none⟩ = some (.int .i64 st0) := keepc hb' c13_a0_1
  clear c13_a0_1 ac13_a0_1
  have c14_a0_2 : w14.cell? ⟨w.heap.size, 2, none⟩ = some (.slice A0 n0 c0) := keepc hb' c13_a0_2
  clear c13_a0_2 ac13_a0_2
  have c14_a1_0 : w14.cell? ⟨(w.heap.size + 1), 0, none⟩ = some (.int .i64 st1) := keepc hb' c13_a1_0
  clear c13_a1_0 ac13_a1_0
  have c14_a1_1 : w14.cell? ⟨(w.heap.size + 1), 1, none⟩ = some (.int .i64 hd1) := keepc hb' c13_a1_1
  clear c13_a1_1 ac13_a1_1
  have c14_a1_2 : w14.cell? ⟨(w.heap.size + 1), 2, none⟩ = some (.int .i64 at1) := keepc hb' c13_a1_2
  clear c13_a1_2 ac13_a1_2
  have c14_a1_3 : w14.cell? ⟨(w.heap.size + 1), 3, none⟩ = some (.slice A1 n1 c1) := keepc hb' c13_a1_3
  clear c13_a1_3 ac13_a1_3
  have c14_a1_4 : w14.cell? ⟨(w.heap.size + 1), 4, none⟩ = some (.slice B1 m1 d1) := keepc hb' c13_a1_4
  clear c13_a1_4 ac13_a1_4
  have c14_a1_5 : w14.cell? ⟨(w.heap.size + 1), 5, none⟩ = some (.slice C1 k1 e1) := keepc hb' c13_a1_5
  clear c13_a1_5 ac13_a1_5
  have c14_a2_0 : w14.cell? ⟨(w.heap.size + 1 + 1), 0, none⟩ = some (.int .i64 st2) := keepc hb' c13_a2_0
  clear c13_a2_0 ac13_a2_0
  have c14_a2_1 : w14.cell? ⟨(w.heap.size + 1 + 1), 1, none⟩ = some (.int .i64 hd2) := keepc hb' c13_a2_1
  clear c13_a2_1 ac13_a2_1
  have c14_a2_2 : w14.cell? ⟨(w.heap.size + 1 + 1), 2, none⟩ = some (.int .i64 at2) := keepc hb' c13_a2_2
  clear c13_a2_2 ac13_a2_2
  have c14_a2_3 : w14.cell? ⟨(w.heap.size + 1 + 1), 3, none⟩ = some (.slice A2 n2 c2) := keepc hb' c13_a2_3
  clear c13_a2_3 ac13_a2_3
  have c14_a2_4 : w14.cell? ⟨(w.heap.size + 1 + 1), 4, none⟩ = some (.slice B2 m2 d2) := keepc hb' c13_a2_4
  clear c13_a2_4 ac13_a2_4
  have c14_a2_5 : w14.cell? ⟨(w.heap.size + 1 + 1), 5, none⟩ = some (.slice C2 k2 e2) := keepc hb' c13_a2_5
  clear c13_a2_5 ac13_a2_5
  have c14_o32_0 : w14.cell? ⟨w8.heap.size, 0, none⟩ = some (.int .i64 sy0) := keepc hb' c13_o32_0
  clear c13_o32_0 ac13_o32_0
  have c14_o32_1 : w14.cell? ⟨w8.heap.size, 1, none⟩ = some (.int .i64 st0) := keepc hb' c13_o32_1
  clear c13_o32_1 ac13_o32_1
  have c14_o32_2 : w14.cell? ⟨w8.heap.size, 2, none⟩ = some (.slice (some ⟨g031, 0, none⟩) n0 n0) := keepc hb' c13_o32_2
  clear c13_o32_2 ac13_o32_2
  have c14_o38_0 : w14.cell? ⟨w9.heap.size, 0, none⟩ = some (.int .i64 st1) := keepc hb' c13_o38_0
  clear c13_o38_0 ac13_o38_0
  have c14_o38_1 : w14.cell? ⟨w9.heap.size, 1, none⟩ = some (.int .i64 hd1) := keepc hb' c13_o38_1
  clear c13_o38_1 ac13_o38_1
  have c14_o38_2 : w14.cell? ⟨w9.heap.size, 2, none⟩ = some (.int .i64 at1) := keepc hb' c13_o38_2
  clear c13_o38_2 ac13_o38_2
  have c14_o38_3 : w14.cell? ⟨w9.heap.size, 3, none⟩ = some (.slice (some ⟨g033, 0, none⟩) n1 n1) := keepc hb' c13_o38_3
  clear c13_o38_3 ac13_o38_3
  have c14_o38_4 : w14.cell? ⟨w9.heap.size, 4, none⟩ = some (.slice (some ⟨g135, 0, none⟩) m1 m1) := keepc hb' c13_o38_4
  clear c13_o38_4 ac13_o38_4
  have c14_o38_5 : w14.cell? ⟨w9.heap.size, 5, none⟩ = some (.slice (some ⟨g237, 0, none⟩) k1 k1) := keepc hb' c13_o38_5
  clear c13_o38_5 ac13_o38_5
  have c14_o44_0 : w14.cell? ⟨w10.heap.size, 0, none⟩ = some (.int .i64 st2) := keepc hb' c13_o44_0
  clear c13_o44_0 ac13_o44_0
  have c14_o44_1 : w14.cell? ⟨w10.heap.size, 1, none⟩ = some (.int .i64 hd2) := keepc hb' c13_o44_1
  clear c13_o44_1 ac13_o44_1
  have c14_o44_2 : w14.cell? ⟨w10.heap.size, 2, none⟩ = some (.int .i64 at2) := keepc hb' c13_o44_2
  clear c13_o44_2 ac13_o44_2
  have c14_o44_3 : w14.cell? ⟨w10.heap.size, 3, none⟩ = some (.slice (some ⟨g039, 0, none⟩) n2 n2) := keepc hb' c13_o44_3
  clear c13_o44_3 ac13_o44_3
  have c14_o44_4 : w14.cell? ⟨w10.heap.size, 4, none⟩ = some (.slice (some ⟨g141, 0, none⟩) m2 m2) := keepc hb' c13_o44_4
  clear c13_o44_4 ac13_o44_4
  have c14_o44_5 : w14.cell? ⟨w10.heap.size, 5, none⟩ = some (.slice (some ⟨g243, 0, none⟩) k2 k2) := keepc hb' c13_o44_5
  clear c13_o44_5 ac13_o44_5
  have ac14_a0_0 := fun o => keepa o c14_a0_0
  have ac14_a0_1 := fun o => keepa o c14_a0_1
  have ac14_a0_2 := fun o => keepa o c14_a0_2
  have ac14_a1_0 := fun o => keepa o c14_a1_0
  have ac14_a1_1 := fun o => keepa o c14_a1_1
  have ac14_a1_2 := fun o => keepa o c14_a1_2
  have ac14_a1_3 := fun o => keepa o c14_a1_3
  have ac14_a1_4 := fun o => keepa o c14_a1_4
  have ac14_a1_5 := fun o => keepa o c14_a1_5
  have ac14_a2_0 := fun o => keepa o c14_a2_0
  have ac14_a2_1 := fun o => keepa o c14_a2_1
  have ac14_a2_2 := fun o => keepa o c14_a2_2
  have ac14_a2_3 := fun o => keepa o c14_a2_3
  have ac14_a2_4 := fun o => keepa o c14_a2_4
  have ac14_a2_5 := fun o => keepa o c14_a2_5
  have ac14_o32_0 := fun o => keepa o c14_o32_0
  have ac14_o32_1 := fun o => keepa o c14_o32_1
  have ac14_o32_2 := fun o => keepa o c14_o32_2
  have ac14_o38_0 := fun o => keepa o c14_o38_0
  have ac14_o38_1 := fun o => keepa o c14_o38_1
  have ac14_o38_2 := fun o => keepa o c14_o38_2
  have ac14_o38_3 := fun o => keepa o c14_o38_3
  have ac14_o38_4 := fun o => keepa o c14_o38_4
  have ac14_o38_5 := fun o => keepa o c14_o38_5
  have ac14_o44_0 := fun o => keepa o c14_o44_0
  have ac14_o44_1 := fun o => keepa o c14_o44_1
  have ac14_o44_2 := fun o => keepa o c14_o44_2
  have ac14_o44_3 := fun o => keepa o c14_o44_3
  have ac14_o44_4 := fun o => keepa o c14_o44_4
  have ac14_o44_5 := fun o => keepa o c14_o44_5
  have rP0 := P0.out.below hb'; clear P0; have P0 := Lib.hid rP0; clear rP0
  have rP1 := P1.out.below hb'; clear P1; have P1 := Lib.hid rP1; clear rP1
  have rP2 := P2.out.below hb'; clear P2; have P2 := Lib.hid rP2; clear rP2
  have rFo30 := Fo30.out.below hb'; clear Fo30; have Fo30 := Lib.hid rFo30; clear rFo30
  have rFo32 := Fo32.out.below hb'; clear Fo32; have Fo32 := Lib.hid rFo32; clear rFo32
  have rFo38 := Fo38.out.below hb'; clear Fo38; have Fo38 := Lib.hid rFo38; clear rFo38
  have rFo44 := Fo44.out.below hb'; clear Fo44; have Fo44 := Lib.hid rFo44; clear rFo44
  have rFo50 := Fo50.out.below hb'; clear Fo50; have Fo50 := Lib.hid rFo50; clear rFo50
  have rFo52 := Fo52.out.below hb'; clear Fo52; have Fo52 := Lib.hid rFo52; clear rFo52
  have rB := below_chain B.out (by omega) hb'; clear B; have B := Lib.hid rB; clear rB
  have em14 : Below w12.heap.size w12 w14 := below_chain em13 (by omega) hb'
  clear hb hb'
  go_wp2_with fail
  refine hK _ _ ⟨⟨_, em14⟩, rfl⟩ ?_
  clear hK K
  repeat (first | (refine Mix.wpMix_read (by rfl) ?_; go_big_quiet_step (fail); refine wpQuiet_nil ?_) | (refine Mix.wpMix_pure (by rfl) ?_; go_big_quiet_step (fail); refine wpQuiet_nil ?_))
  (refine Mix.wpMix_nil ?_; try simp only [Exit.then])
  clear fx_c12_a0_0
  clear fx_c12_a0_1
  clear fx_c12_a0_2
  clear fx_c12_a1_0
  clear fx_c12_a1_1
  clear fx_c12_a1_2
  clear fx_c12_a1_3
  clear fx_c12_a1_4
  clear fx_c12_a1_5
  clear fx_c12_a2_0
  clear fx_c12_a2_1
  clear fx_c12_a2_2
  clear fx_c12_a2_3
  clear fx_c12_a2_4
  clear fx_c12_a2_5
  clear fx_c12_o32_0
  clear fx_c12_o32_1
  clear fx_c12_o32_2
  clear fx_c12_o38_0
  clear fx_c12_o38_1
  clear fx_c12_o38_2
  clear fx_c12_o38_3
  clear fx_c12_o38_4
  clear fx_c12_o38_5
  clear fx_c12_o44_0
  clear fx_c12_o44_1
  clear fx_c12_o44_2
  clear fx_c12_o44_3
  clear fx_c12_o44_4
  clear fx_c12_o44_5
  clear Fo52
  go_wp2_with fail
  have fx_c14_a0_0 := Ext.cell c14_a0_0
  have fx_c14_a0_1 := Ext.cell c14_a0_1
  have fx_c14_a0_2 := Ext.cell c14_a0_2
  have fx_c14_a1_0 := Ext.cell c14_a1_0
  have fx_c14_a1_1 := Ext.cell c14_a1_1
  have fx_c14_a1_2 := Ext.cell c14_a1_2
  have fx_c14_a1_3 := Ext.cell c14_a1_3
  have fx_c14_a1_4 := Ext.cell c14_a1_4
  have fx_c14_a1_5 := Ext.cell c14_a1_5
  have fx_c14_a2_0 := Ext.cell c14_a2_0
  have fx_c14_a2_1 := Ext.cell c14_a2_1
  have fx_c14_a2_2 := Ext.cell c14_a2_2
  have fx_c14_a2_3 := Ext.cell c14_a2_3
  have fx_c14_a2_4 := Ext.cell c14_a2_4
  have fx_c14_a2_5 := Ext.cell c14_a2_5
  have fx_c14_o32_0 := Ext.cell c14_o32_0
  have fx_c14_o32_1 := Ext.cell c14_o32_1
  have fx_c14_o32_2 := Ext.cell c14_o32_2
  have fx_c14_o38_0 := Ext.cell c14_o38_0
  have fx_c14_o38_1 := Ext.cell c14_o38_1
  have fx_c14_o38_2 := Ext.cell c14_o38_2
  have fx_c14_o38_3 := Ext.cell c14_o38_3
  have fx_c14_o38_4 := Ext.cell c14_o38_4
  have fx_c14_o38_5 := Ext.cell c14_o38_5
  have fx_c14_o44_0 := Ext.cell c14_o44_0
  have fx_c14_o44_1 := Ext.cell c14_o44_1
  have fx_c14_o44_2 := Ext.cell c14_o44_2
  have fx_c14_o44_3 := Ext.cell c14_o44_3
  have fx_c14_o44_4 := Ext.cell c14_o44_4
  have fx_c14_o44_5 := Ext.cell c14_o44_5
  refine Mix.wp_region_mix [3, 3, 1, 1, 0] (fun w' => ∃ x : Ext w14, w' = x.w) (by kernel_rfl) (by kernel_rfl) (InExt.drew _) ?_
  repeat (first | (refine Mix.wpMix_read (by rfl) ?_; go_big_quiet_step (fail); refine wpQuiet_nil ?_) | (refine Mix.wpMix_pure (by rfl) ?_; go_big_quiet_step (fail); refine wpQuiet_nil ?_))
  refine Mix.wpMix_chg (by rfl) (fun K hK => ?_)
  go_wp2_with fail
  refine (toFormula_c _ _ _ _ _ _ _ _ _ _ _ _ _ _ _ _ (by exact (P1.out.rd)) (by omega) (by omega) (by omega) hI0_a1 hI1_a1).mono ?_
  rintro e w15 ⟨g053, js054, g155, js156, g257, rfl, hx0_15, hx1_15, q15, hb⟩
  have hb' : Below w14.heap.size w14 w15 := (by first | (with_reducible exact hb) | (with_reducible exact up1 hb) | (with_reducible exact up2 hb) | (with_reducible exact up3 hb) | (with_reducible exact up4 hb) | (with_reducible exact below_of_drew hb) | (with_reducible exact below_of_drew (up1 hb)))
  have z15 := hb'.size
  have c15_a0_0 : w15.cell? ⟨w.heap.size, 0, none⟩ = some (.int .i64 sy0) := keepc hb' c14_a0_0
  clear c14_a0_0 ac14_a0_0
  have c15_a0_1 : w15.cell? ⟨w.heap.size, 1, none⟩ = some (.int .i64 st0) := keepc hb' c14_a0_1
  clear c14_a0_1 ac14_a0_1
  have c15_a0_2 : w15.cell? ⟨w.heap.size, 2, none⟩ = some (.slice A0 n0 c0) := keepc hb' c14_a0_2
  clear c14_a0_2 ac14_a0_2
  have c15_a1_0 : w15.cell? ⟨(w.heap.size + 1), 0, none⟩ = some (.int .i64 st1) := keepc hb' c14_a1_0
  clear c14_a1_0 ac14_a1_0
  have c15_a1_1 : w15.cell? ⟨(w.heap.size + 1), 1, none⟩ = some (.int .i64 hd1) := keepc hb' c14_a1_1
  clear c14_a1_1 ac14_a1_1
  have c15_a1_2 : w15.cell? ⟨(w.heap.size + 1), 2, none⟩ = some (.int .i64 at1) := keepc hb' c14_a1_2
  clear c14_a1_2 ac14_a1_2
  have c15_a1_3 : w15.cell? ⟨(w.heap.size + 1), 3, none⟩ = some (.slice A1 n1 c1) := keepc hb' c14_a1_3
  clear c14_a1_3 ac14_a1_3
  have c15_a1_4 : w15.cell? ⟨(w.heap.size + 1), 4, none⟩ = some (.slice B1 m1 d1) := keepc hb' c14_a1_4
  clear c14_a1_4 ac14_a1_4
  have c15_a1_5 : w15.cell? ⟨(w.heap.size + 1), 5, none⟩ = some (.slice C1 k1 e1) := keepc hb' c14_a1_5
  clear c14_a1_5 ac14_a1_5
  have c15_a2_0 : w15.cell? ⟨(w.heap.size + 1 + 1), 0, none⟩ = some (.int .i64 st2) := keepc hb' c14_a2_0
  clear c14_a2_0 ac14_a2_0
  have c15_a2_1 : w15.cell? ⟨(w.heap.size + 1 + 1), 1, none⟩ = some (.int .i64 hd2) := keepc hb' c14_a2_1
  clear c14_a2_1 ac14_a2_1
  have c15_a2_2 : w15.cell? ⟨(w.heap.size + 1 + 1), 2, none⟩ = some (.int .i64 at2) := keepc hb' c14_a2_2
  clear c14_a2_2 ac14_a2_2
  have c15_a2_3 : w15.cell? ⟨(w.heap.size + 1 + 1), 3, none⟩ = some (.slice A2 n2 c2) := keepc hb' c14_a2_3
  clear c14_a2_3 ac14_a2_3
  have c15_a2_4 : w15.cell? ⟨(w.heap.size + 1 + 1), 4, none⟩ = some (.slice B2 m2 d2) := keepc hb' c14_a2_4
  clear c14_a2_4 ac14_a2_4
  have c15_a2_5 : w15.cell? ⟨(w.heap.size + 1 + 1), 5, none⟩ = some (.slice C2 k2 e2) := keepc hb' c14_a2_5
  clear c14_a2_5 ac14_a2_5
  have c15_o32_0 : w15.cell? ⟨w8.heap.size, 0, none⟩ = some (.int .i64 sy0) := keepc hb' c14_o32_0
  clear c14_o32_0 ac14_o32_0
  have c15_o32_1 : w15.cell? ⟨w8.heap.size, 1, none⟩ = some (.int .i64 st0) := keepc hb' c14_o32_1
  clear c14_o32_1 ac14_o32_1
  have c15_o32_2 : w15.cell? ⟨w8.heap.size, 2, none⟩ = some (.slice (some ⟨g031, 0, none⟩) n0 n0) := keepc hb' c14_o32_2
  clear c14_o32_2 ac14_o32_2
  have c15_o38_0 : w15.cell? ⟨w9.heap.size, 0, none⟩ = some (.int .i64 st1) := keepc hb' c14_o38_0
  clear c14_o38_0 ac14_o38_0
  have c15_o38_1 : w15.cell? ⟨w9.heap.size, 1, none⟩ = some (.int .i64 hd1) := keepc hb' c14_o38_1
  clear c14_o38_1 ac14_o38_1
  have c15_o38_2 : w15.cell? ⟨w9.heap.size, 2, none⟩ = some (.int .i64 at1) := keepc hb' c14_o38_2
  clear c14_o38_2 ac14_o38_2
  have c15_o38_3 : w15.cell? ⟨w9.heap.size, 3, none⟩ = some (.slice (some ⟨g033, 0, none⟩) n1 n1) := keepc hb' c14_o38_3
  clear c14_o38_3 ac14_o38_3
  have c15_o38_4 : w15.cell? ⟨w9.heap.size, 4, none⟩ = some (.slice (some ⟨g135, 0, none⟩) m1 m1) := keepc hb' c14_o38_4
  clear c14_o38_4 ac14_o38_4
  have c15_o38_5 : w15.cell? ⟨w9.heap.size, 5, none⟩ = some (.slice (some ⟨g237, 0, none⟩) k1 k1) := keepc hb' c14_o38_5
  clear c14_o38_5 ac14_o38_5
  have c15_o44_0 : w15.cell? ⟨w10.heap.size, 0, none⟩ = some (.int .i64 st2) := keepc hb' c14_o44_0
  clear c14_o44_0 ac14_o44_0
  have c15_o44_1 : w15.cell? ⟨w10.heap.size, 1, none⟩ = some (.int .i64 hd2) := keepc hb' c14_o44_1
  clear c14_o44_1 ac14_o44_1
  have c15_o44_2 : w15.cell? ⟨w10.heap.size, 2, none⟩ = some (.int .i64 at2) := keepc hb' c14_o44_2
  clear c14_o44_2 ac14_o44_2
  have c15_o44_3 : w15.cell? ⟨w10.heap.size, 3, none⟩ = some (.slice (some ⟨g039, 0, none⟩) n2 n2) := keepc hb' c14_o44_3
  clear c14_o44_3 ac14_o44_3
  have c15_o44_4 : w15.cell? ⟨w10.heap.size, 4, none⟩ = some (.slice (some ⟨g141, 0, none⟩) m2 m2) := keepc hb' c14_o44_4
  clear c14_o44_4 ac14_o44_4
  have c15_o44_5 : w15.cell? ⟨w10.heap.size, 5, none⟩ = some (.slice (some ⟨g243, 0, none⟩) k2 k2) := keepc hb' c14_o44_5
  clear c14_o44_5 ac14_o44_5
  have ac15_a0_0 := fun o => keepa o c15_a0_0
  have ac15_a0_1 := fun o => keepa o c15_a0_1
  have ac15_a0_2 := fun o => keepa o c15_a0_2
  have ac15_a1_0 := fun o => keepa o c15_a1_0
  have ac15_a1_1 := fun o => keepa o c15_a1_1
  have ac15_a1_2 := fun o => keepa o c15_a1_2
  have ac15_a1_3 := fun o => keepa o c15_a1_3
  have ac15_a1_4 := fun o => keepa o c15_a1_4
  have ac15_a1_5 := fun o => keepa o c15_a1_5
  have ac15_a2_0 := fun o => keepa o c15_a2_0
  have ac15_a2_1 := fun o => keepa o c15_a2_1
  have ac15_a2_2 := fun o => keepa o c15_a2_2
  have ac15_a2_3 := fun o => keepa o c15_a2_3
  have ac15_a2_4 := fun o => keepa o c15_a2_4
  have ac15_a2_5 := fun o => keepa o c15_a2_5
  have ac15_o32_0 := fun o => keepa o c15_o32_0
  have ac15_o32_1 := fun o => keepa o c15_o32_1
  have ac15_o32_2 := fun o => keepa o c15_o32_2
  have ac15_o38_0 := fun o => keepa o c15_o38_0
  have ac15_o38_1 := fun o => keepa o c15_o38_1
  have ac15_o38_2 := fun o => keepa o c15_o38_2
  have ac15_o38_3 := fun o => keepa o c15_o38_3
  have ac15_o38_4 := fun o => keepa o c15_o38_4
  have ac15_o38_5 := fun o => keepa o c15_o38_5
  have ac15_o44_0 := fun o => keepa o c15_o44_0
  have ac15_o44_1 := fun o => keepa o c15_o44_1
  have ac15_o44_2 := fun o => keepa o c15_o44_2
  have ac15_o44_3 := fun o => keepa o c15_o44_3
  have ac15_o44_4 := fun o => keepa o c15_o44_4
  have ac15_o44_5 := fun o => keepa o c15_o44_5
  have rP0 := P0.out.below hb'; clear P0; have P0 := Lib.hid rP0; clear rP0
  have rP1 := P1.out.below hb'; clear P1; have P1 := Lib.hid rP1; clear rP1
  have rP2 := P2.out.below hb'; clear P2; have P2 := Lib.hid rP2; clear rP2
  have rFo30 := Fo30.out.below hb'; clear Fo30; have Fo30 := Lib.hid rFo30; clear rFo30
  have rFo32 := Fo32.out.below hb'; clear Fo32; have Fo32 := Lib.hid rFo32; clear rFo32
  have rFo38 := Fo38.out.below hb'; clear Fo38; have Fo38 := Lib.hid rFo38; clear rFo38
  have rFo44 := Fo44.out.below hb'; clear Fo44; have Fo44 := Lib.hid rFo44; clear rFo44
  have rFo50 := Fo50.out.below hb'; clear Fo50; have Fo50 := Lib.hid rFo50; clear rFo50
  have rB := below_chain B.out (by omega) hb'; clear B; have B := Lib.hid rB; clear rB
  have Fo58 := Lib.hid q15; clear q15
  have hm0_o58 := hx0_15
  have hI0_o58 : ∀ t ∈ js054, t.n ≤ 1000000000 := hi_of ((P1.out.rd).left.left) ((Fo58.out.rd).left.left) hx0_15 hI0_a1
  have hSm0_o58 : sumN js054 ≤ sumN its1 := sum_of ((P1.out.rd).left.left) ((Fo58.out.rd).left.left) hx0_15
  have hm1_o58 := hx1_15
  have hI1_o58 : ∀ t ∈ js156, t.n ≤ 1000000000 := hi_of ((P1.out.rd).left.right) ((Fo58.out.rd).left.right) hx1_15 hI1_a1
  have hSm1_o58 : sumN js156 ≤ sumN jts1 := sum_of ((P1.out.rd).left.right) ((Fo58.out.rd).left.right) hx1_15
  have em15 : Below w14.heap.size w14 w15 := hb'
  clear hb hb'
  go_wp2_with fail
  refine hK _ _ ⟨⟨_, em15⟩, rfl⟩ ?_
  clear hK K
  refine Mix.wpMix_chg (by rfl) (fun K hK => ?_)
  go_wp2_with fail
  refine (eqFormula_t _ _ _ _ _ _ _ _ _ _ _ _ _ _ _ _ _ _ _ _ _ _ _ _ _ _ _ (by exact (Fo38.out.rd)) (by exact (Fo58.out.rd)) (by omega) (by omega) (by omega) hI0_o38 (hm0_o38.trans hm0_o58.symm) hI1_o38 (hm1_o38.trans hm1_o58.symm)).mono ?_
  rintro e w16 ⟨rfl, hb⟩
  have hb' : Below w15.heap.size w15 w16 := (by first | (with_reducible exact hb) | (with_reducible exact up1 hb) | (with_reducible exact up2 hb) | (with_reducible exact up3 hb) | (with_reducible exact up4 hb) | (with_reducible exact below_of_drew hb) | (with_reducible exact below_of_drew (up1 hb)))
  have z16 := hb'.size
  have c16_a0_0 : w16.cell? ⟨w.heap.size, 0, none⟩ = some (.int .i64 sy0) := keepc hb' c15_a0_0
  clear c15_a0_0 ac15_a0_0
  have c16_a0_1 : w16.cell? ⟨w.heap.size, 1, none⟩ = some (.int .i64 st0) := keepc hb' c15_a0_1
  clear c15_a0_1 ac15_a0_1
  have c16_a0_2 : w16.cell? ⟨w.heap.size, 2, none⟩ = some (.slice A0 n0 c0) := keepc hb' c15_a0_2
  clear c15_a0_2 ac15_a0_2
  have c16_a1_0 : w16.cell? ⟨(w.heap.size + 1), 0, none⟩ = some (.int .i64 st1) := keepc hb' c15_a1_0
  clear c15_a1_0 ac15_a1_0
  have c16_a1_1 : w16.cell? ⟨(w.heap.size + 1), 1, none⟩ = some (.int .i64 hd1) := keepc hb' c15_a1_1
  clear c15_a1_1 ac15_a1_1
  have c16_a1_2 : w16.cell? ⟨(w.heap.size + 1), 2, none⟩ = some (.int .i64 at1) := keepc hb' c15_a1_2
  clear c15_a1_2 ac15_a1_2
  have c16_a1_3 : w16.cell? ⟨(w.heap.size + 1), 3, none⟩ = some (.slice A1 n1 c1) := keepc hb' c15_a1_3
  clear c15_a1_3 ac15_a1_3
  have c16_a1_4 : w16.cell? ⟨(w.heap.size + 1), 4, none⟩ = some (.slice B1 m1 d1) := keepc hb' c15_a1_4
  clear c15_a1_4 ac15_a1_4
  have c16_a1_5 : w16.cell? ⟨(w.heap.size + 1), 5, none⟩ = some (.slice C1 k1 e1) := keepc hb' c15_a1_5
  clear c15_a1_5 ac15_a1_5
  have c16_a2_0 : w16.cell? ⟨(w.heap.size + 1 + 1), 0, none⟩ = some (.int .i64 st2) := keepc hb' c15_a2_0
  clear c15_a2_0 ac15_a2_0
  have c16_a2_1 : w16.cell? ⟨(w.heap.size + 1 + 1), 1, none⟩ = some (.int .i64 hd2) := keepc hb' c15_a2_1
  clear c15_a2_1 ac15_a2_1
  have c16_a2_2 : w16.cell? ⟨(w.heap.size + 1 + 1), 2, none⟩ = some (.int .i64 at2) := keepc hb' c15_a2_2
  clear c15_a2_2 ac15_a2_2
  have c16_a2_3 : w16.cell? ⟨(w.heap.size + 1 + 1), 3, none⟩ = some (.slice A2 n2 c2) := keepc hb' c15_a2_3
  clear c15_a2_3 ac15_a2_3
  have c16_a2_4 : w16.cell? ⟨(w.heap.size + 1 + 1), 4, none⟩ = some (.slice B2 m2 d2) := keepc hb' c15_a2_4
  clear c15_a2_4 ac15_a2_4
  have c16_a2_5 : w16.cell? ⟨(w.heap.size + 1 + 1), 5, none⟩ = some (.slice C2 k2 e2) := keepc hb' c15_a2_5
  clear c15_a2_5 ac15_a2_5
  have c16_o32_0 : w16.cell? ⟨w8.heap.size, 0, none⟩ = some (.int .i64 sy0) := keepc hb' c15_o32_0
  clear c15_o32_0 ac15_o32_0
  have c16_o32_1 : w16.cell? ⟨w8.heap.size, 1, none⟩ = some (.int .i64 st0) := keepc hb' c15_o32_1
  clear c15_o32_1 ac15_o32_1
  have c16_o32_2 : w16.cell? ⟨w8.heap.size, 2, none⟩ = some (.slice (some ⟨g031, 0, none⟩) n0 n0) := keepc hb' c15_o32_2
  clear c15_o32_2 ac15_o32_2
  have c16_o38_0 : w16.cell? ⟨w9.heap.size, 0, none⟩ = some (.int .i64 st1) := keepc hb' c15_o38_0
  clear c15_o38_0 ac15_o38_0
  have c16_o38_1 : w16.cell? ⟨w9.heap.size, 1, none⟩ = some (.int .i64 hd1) := keepc hb' c15_o38_1
  clear c15_o38_1 ac15_o38_1
  have c16_o38_2 : w16.cell? ⟨w9.heap.size, 2, none⟩ = some (.int .i64 at1) := keepc hb' c15_o38_2
  clear c15_o38_2 ac15_o38_2
  have c16_o38_3 : w16.cell? ⟨w9.heap.size, 3, none⟩ = some (.slice (some ⟨g033, 0, none⟩) n1 n1) := keepc hb' c15_o38_3
  clear c15_o38_3 ac15_o38_3
  have c16_o38_4 : w16.cell? ⟨w9.heap.size, 4, none⟩ = some (.slice (some ⟨g135, 0, none⟩) m1 m1) := keepc hb' c15_o38_4
  clear c15_o38_4 ac15_o38_4
  have c16_o38_5 : w16.cell? ⟨w9.heap.size, 5, none⟩ = some (.slice (some ⟨g237, 0, none⟩) k1 k1) := keepc hb' c15_o38_5
  clear c15_o38_5 ac15_o38_5
  have c16_o44_0 : w16.cell? ⟨w10.heap.size, 0, none⟩ = some (.int .i64 st2) := keepc hb' c15_o44_0
  clear c15_o44_0 ac15_o44_0
  have c16_o44_1 : w16.cell? ⟨w10.heap.size, 1, none⟩ = some (.int .i64 hd2) := keepc hb' c15_o44_1
  clear c15_o44_1 ac15_o44_1
  have c16_o44_2 : w16.cell? ⟨w10.heap.size, 2, none⟩ = some (.int .i64 at2) := keepc hb' c15_o44_2
  clear c15_o44_2 ac15_o44_2
  have c16_o44_3 : w16.cell? ⟨w10.heap.size, 3, none⟩ = some (.slice (some ⟨g039, 0, none⟩) n2 n2) := keepc hb' c15_o44_3
  clear c15_o44_3 ac15_o44_3
  have c16_o44_4 : w16.cell? ⟨w10.heap.size, 4, none⟩ = some (.slice (some ⟨g141, 0, none⟩) m2 m2) := keepc hb' c15_o44_4
  clear c15_o44_4 ac15_o44_4
  have c16_o44_5 : w16.cell? ⟨w10.heap.size, 5, none⟩ = some (.slice (some ⟨g243, 0, none⟩) k2 k2) := keepc hb' c15_o44_5
  clear c15_o44_5 ac15_o44_5
  have ac16_a0_0 := fun o => keepa o c16_a0_0
  have ac16_a0_1 := fun o => keepa o c16_a0_1
  have ac16_a0_2 := fun o => keepa o c16_a0_2
  have ac16_a1_0 := fun o => keepa o c16_a1_0
  have ac16_a1_1 := fun o => keepa o c16_a1_1
  have ac16_a1_2 := fun o => keepa o c16_a1_2
  have ac16_a1_3 := fun o => keepa o c16_a1_3
  have ac16_a1_4 := fun o => keepa o c16_a1_4
  have ac16_a1_5 := fun o => keepa o c16_a1_5
  have ac16_a2_0 := fun o => keepa o c16_a2_0
  have ac16_a2_1 := fun o => keepa o c16_a2_1
  have ac16_a2_2 := fun o => keepa o c16_a2_2
  have ac16_a2_3 := fun o => keepa o c16_a2_3
  have ac16_a2_4 := fun o => keepa o c16_a2_4
  have ac16_a2_5 := fun o => keepa o c16_a2_5
  have ac16_o32_0 := fun o => keepa o c16_o32_0
  have ac16_o32_1 := fun o => keepa o c16_o32_1
  have ac16_o32_2 := fun o => keepa o c16_o32_2
  have ac16_o38_0 := fun o => keepa o c16_o38_0
  have ac16_o38_1 := fun o => keepa o c16_o38_1
  have ac16_o38_2 := fun o => keepa o c16_o38_2
  have ac16_o38_3 := fun o => keepa o c16_o38_3
  have ac16_o38_4 := fun o => keepa o c16_o38_4
  have ac16_o38_5 := fun o => keepa o c16_o38_5
  have ac16_o44_0 := fun o => keepa o c16_o44_0
  have ac16_o44_1 := fun o => keepa o c16_o44_1
  have ac16_o44_2 := fun o => keepa o c16_o44_2
  have ac16_o44_3 := fun o => keepa o c16_o44_3
  have ac16_o44_4 := fun o => keepa o c16_o44_4
  have ac16_o44_5 := fun o => keepa o c16_o44_5
  have rP0 := P0.out.below hb'; clear P0; have P0 := Lib.hid rP0; clear rP0
  have rP1 := P1.out.below hb'; clear P1; have P1 := Lib.hid rP1; clear rP1
  have rP2 := P2.out.below hb'; clear P2; have P2 := Lib.hid rP2; clear rP2
  have rFo30 := Fo30.out.below hb'; clear Fo30; have Fo30 := Lib.hid rFo30; clear rFo30
  have rFo32 := Fo32.out.below hb'; clear Fo32; have Fo32 := Lib.hid rFo32; clear rFo32
  have rFo38 := Fo38.out.below hb'; clear Fo38; have Fo38 := Lib.hid rFo38; clear rFo38
  have rFo44 := Fo44.out.below hb'; clear Fo44; have Fo44 := Lib.hid rFo44; clear rFo44
  have rFo50 := Fo50.out.below hb'; clear Fo50; have Fo50 := Lib.hid rFo50; clear rFo50
  have rFo58 := Fo58.out.below hb'; clear Fo58; have Fo58 := Lib.hid rFo58; clear rFo58
  have rB := below_chain B.out (by omega) hb'; clear B; have B := Lib.hid rB; clear rB
  have em16 : Below w14.heap.size w14 w16 := below_chain em15 (by omega) hb'
  clear hb hb'
  go_wp2_with fail
  refine hK _ _ ⟨⟨_, em16⟩, rfl⟩ ?_
  clear hK K
  repeat (first | (refine Mix.wpMix_read (by rfl) ?_; go_big_quiet_step (fail); refine wpQuiet_nil ?_) | (refine Mix.wpMix_pure (by rfl) ?_; go_big_quiet_step (fail); refine wpQuiet_nil ?_))
  (refine Mix.wpMix_nil ?_; try simp only [Exit.then])
  clear fx_c14_a0_0
  clear fx_c14_a0_1
  clear fx_c14_a0_2
  clear fx_c14_a1_0
  clear fx_c14_a1_1
  clear fx_c14_a1_2
  clear fx_c14_a1_3
  clear fx_c14_a1_4
  clear fx_c14_a1_5
  clear fx_c14_a2_0
  clear fx_c14_a2_1
  clear fx_c14_a2_2
  clear fx_c14_a2_3
  clear fx_c14_a2_4
  clear fx_c14_a2_5
  clear fx_c14_o32_0
  clear fx_c14_o32_1
  clear fx_c14_o32_2
  clear fx_c14_o38_0
  clear fx_c14_o38_1
  clear fx_c14_o38_2
  clear fx_c14_o38_3
  clear fx_c14_o38_4
  clear fx_c14_o38_5
  clear fx_c14_o44_0
  clear fx_c14_o44_1
  clear fx_c14_o44_2
  clear fx_c14_o44_3
  clear fx_c14_o44_4
  clear fx_c14_o44_5
  clear Fo58
  go_wp2_with fail
  have fx_c16_a0_0 := Ext.cell c16_a0_0
  have fx_c16_a0_1 := Ext.cell c16_a0_1
  have fx_c16_a0_2 := Ext.cell c16_a0_2
  have fx_c16_a1_0 := Ext.cell c16_a1_0
  have fx_c16_a1_1 := Ext.cell c16_a1_1
  have fx_c16_a1_2 := Ext.cell c16_a1_2
  have fx_c16_a1_3 := Ext.cell c16_a1_3
  have fx_c16_a1_4 := Ext.cell c16_a1_4
  have fx_c16_a1_5 := Ext.cell c16_a1_5
  have fx_c16_a2_0 := Ext.cell c16_a2_0
  have fx_c16_a2_1 := Ext.cell c16_a2_1
  have fx_c16_a2_2 := Ext.cell c16_a2_2
  have fx_c16_a2_3 := Ext.cell c16_a2_3
  have fx_c16_a2_4 := Ext.cell c16_a2_4
  have fx_c16_a2_5 := Ext.cell c16_a2_5
  have fx_c16_o32_0 := Ext.cell c16_o32_0
  have fx_c16_o32_1 := Ext.cell c16_o32_1
  have fx_c16_o32_2 := Ext.cell c16_o32_2
  have fx_c16_o38_0 := Ext.cell c16_o38_0
  have fx_c16_o38_1 := Ext.cell c16_o38_1
  have fx_c16_o38_2 := Ext.cell c16_o38_2
  have fx_c16_o38_3 := Ext.cell c16_o38_3
  have fx_c16_o38_4 := Ext.cell c16_o38_4
  have fx_c16_o38_5 := Ext.cell c16_o38_5
  have fx_c16_o44_0 := Ext.cell c16_o44_0
  have fx_c16_o44_1 := Ext.cell c16_o44_1
  have fx_c16_o44_2 := Ext.cell c16_o44_2
  have fx_c16_o44_3 := Ext.cell c16_o44_3
  have fx_c16_o44_4 := Ext.cell c16_o44_4
  have fx_c16_o44_5 := Ext.cell c16_o44_5
  refine Mix.wp_region_mix [3, 3, 1, 1, 0] (fun w' => ∃ x : Ext w16, w' = x.w) (by kernel_rfl) (by kernel_rfl) (InExt.drew _) ?_
  repeat (first | (refine Mix.wpMix_read (by rfl) ?_; go_big_quiet_step (fail); refine wpQuiet_nil ?_) | (refine Mix.wpMix_pure (by rfl) ?_; go_big_quiet_step (fail); refine wpQuiet_nil ?_))
  refine Mix.wpMix_chg (by rfl) (fun K hK => ?_)
  go_wp2_with fail
  refine (toFormula_c _ _ _ _ _ _ _ _ _ _ _ _ _ _ _ _ (by exact (P2.out.rd)) (by omega) (by omega) (by omega) hI0_a2 hI1_a2).mono ?_
  rintro e w17 ⟨g059, js060, g161, js162, g263, rfl, hx0_17, hx1_17, q17, hb⟩
  have hb' : Below w16.heap.size w16 w17 := (by first | (with_reducible exact hb) | (with_reducible exact up1 hb) | (with_reducible exact up2 hb) | (with_reducible exact up3 hb) | (with_reducible exact up4 hb) | (with_reducible exact below_of_drew hb) | (with_reducible exact below_of_drew (up1 hb)))
  have z17 := hb'.size
  have c17_a0_0 : w17.cell? ⟨w.heap.size, 0, none⟩ = some (.int .i64 sy0) := keepc hb' c16_a0_0
  clear c16_a0_0 ac16_a0_0
  have c17_a0_1 : w17.cell? ⟨w.heap.size, 1, none⟩ = some (.int .i64 st0) := keepc hb' c16_a0_1
  clear c16_a0_1 ac16_a0_1
  have c17_a0_2 : w17.cell? ⟨w.heap.size, 2, none⟩ = some (.slice A0 n0 c0) := keepc hb' c16_a0_2
  clear c16_a0_2 ac16_a0_2
  have c17_a1_0 : w17.cell? ⟨(w.heap.size + 1), 0, none⟩ = some (.int .i64 st1) := keepc hb' c16_a1_0
  clear c16_a1_0 ac16_a1_0
  have c17_a1_1 : w17.cell? ⟨(w.heap.size + 1), 1, none⟩ = some (.int .i64 hd1) := keepc hb' c16_a1_1
  clear c16_a1_1 ac16_a1_1
  have c17_a1_2 : w17.cell? ⟨(w.heap.size + 1), 2, none⟩ = some (.int .i64 at1) := keepc hb' c16_a1_2
  clear c16_a1_2 ac16_a1_2
  have c17_a1_3 : w17.cell? ⟨(w.heap.size + 1), 3, none⟩ = some (.slice A1 n1 c1) := keepc hb' c16_a1_3
  clear c16_a1_3 ac16_a1_3
  have c17_a1_4 : w17.cell? ⟨(w.heap.size + 1), 4, none⟩ = some (.slice B1 m1 d1) := keepc hb' c16_a1_4
  clear c16_a1_4 ac16_a1_4
  have c17_a1_5 : w17.cell? ⟨(w.heap.size + 1), 5, none⟩ = some (.slice C1 k1 e1) := keepc hb' c16_a1_5
  clear c16_a1_5 ac16_a1_5
  have c17_a2_0 : w17.cell? ⟨(w.heap.size + 1 + 1), 0, none⟩ = some (.int .i64 st2) := keepc hb' c16_a2_0
  clear c16_a2_0 ac16_a2_0
  have c17_a2_1 : w17.cell? ⟨(w.heap.size + 1 + 1), 1, none⟩ = some (.int .i64 hd2) := keepc hb' c16_a2_1
  clear c16_a2_1 ac16_a2_1
  have c17_a2_2 : w17.cell? ⟨(w.heap.size + 1 + 1), 2, none⟩ = some (.int .i64 at2) := keepc hb' c16_a2_2
  clear c16_a2_2 ac16_a2_2
  have c17_a2_3 : w17.cell? ⟨(w.heap.size + 1 + 1), 3, none⟩ = some (.slice A2 n2 c2) := keepc hb' c16_a2_3
  clear c16_a2_3 ac16_a2_3
  have c17_a2_4 : w17.cell? ⟨(w.heap.size + 1 + 1), 4, none⟩ = some (.slice B2 m2 d2) := keepc hb' c16_a2_4
  clear c16_a2_4 ac16_a2_4
  have c17_a2_5 : w17.cell? ⟨(w.heap.size + 1 + 1), 5, none⟩ = some (.slice C2 k2 e2) := keepc hb' c16_a2_5
  clear c16_a2_5 ac16_a2_5
  have c17_o32_0 : w17.cell? ⟨w8.heap.size, 0, none⟩ = some (.int .i64 sy0) := keepc hb' c16_o32_0
  clear c16_o32_0 ac16_o32_0
  have c17_o32_1 : w17.cell? ⟨w8.heap.size, 1, none⟩ = some (.int .i64 st0) := keepc hb' c16_o32_1
  clear c16_o32_1 ac16_o32_1
  have c17_o32_2 : w17.cell? ⟨w8.heap.size, 2, none⟩ = some (.slice (some ⟨g031, 0, none⟩) n0 n0) := keepc hb' c16_o32_2
  clear c16_o32_2 ac16_o32_2
  have c17_o38_0 : w17.cell? ⟨w9.heap.size, 0, none⟩ = some (.int .i64 st1) := keepc hb' c16_o38_0
  clear c16_o38_0 ac16_o38_0
  have c17_o38_1 : w17.cell? ⟨w9.heap.size, 1, none⟩ = some (.int .i64 hd1) := keepc hb' c16_o38_1
  clear c16_o38_1 ac16_o38_1
  have c17_o38_2 : w17.cell? ⟨w9.heap.size, 2, none⟩ = some (.int .i64 at1) := keepc hb' c16_o38_2
  clear c16_o38_2 ac16_o38_2
  have c17_o38_3 : w17.cell? ⟨w9.heap.size, 3, none⟩ = some (.slice (some ⟨g033, 0, none⟩) n1 n1) := keepc hb' c16_o38_3
  clear c16_o38_3 ac16_o38_3
  have c17_o38_4 : w17.cell? ⟨w9.heap.size, 4, none⟩ = some (.slice (some ⟨g135, 0, none⟩) m1 m1) := keepc hb' c16_o38_4
  clear c16_o38_4 ac16_o38_4
  have c17_o38_5 : w17.cell? ⟨w9.heap.size, 5, none⟩ = some (.slice (some ⟨g237, 0, none⟩) k1 k1) := keepc hb' c16_o38_5
  clear c16_o38_5 ac16_o38_5
  have c17_o44_0 : w17.cell? ⟨w10.heap.size, 0, none⟩ = some (.int .i64 st2) := keepc hb' c16_o44_0
  clear c16_o44_0 ac16_o44_0
  have c17_o44_1 : w17.cell? ⟨w10.heap.size, 1, none⟩ = some (.int .i64 hd2) := keepc hb' c16_o44_1
  clear c16_o44_1 ac16_o44_1
  have c17_o44_2 : w17.cell? ⟨w10.heap.size, 2, none⟩ = some (.int .i64 at2) := keepc hb' c16_o44_2
  clear c16_o44_2 ac16_o44_2
  have c17_o44_3 : w17.cell? ⟨w10.heap.size, 3, none⟩ = some (.slice (some ⟨g039, 0, none⟩) n2 n2) := keepc hb' c16_o44_3
  clear c16_o44_3 ac16_o44_3
  have c17_o44_4 : w17.cell? ⟨w10.heap.size, 4, none⟩ = some (.slice (some ⟨g141, 0, none⟩) m2 m2) := keepc hb' c16_o44_4
  clear c16_o44_4 ac16_o44_4
  have c17_o44_5 : w17.cell? ⟨w10.heap.size, 5, none⟩ = some (.slice (some ⟨g243, 0, none⟩) k2 k2) := keepc hb' c16_o44_5
  clear c16_o44_5 ac16_o44_5
  have ac17_a0_0 := fun o => keepa o c17_a0_0
  have ac17_a0_1 := fun o => keepa o c17_a0_1
  have ac17_a0_2 := fun o => keepa o c17_a0_2
  have ac17_a1_0 := fun o => keepa o c17_a1_0
  have ac17_a1_1 := fun o => keepa o c17_a1_1
  have ac17_a1_2 := fun o => keepa o c17_a1_2
  have ac17_a1_3 := fun o => keepa o c17_a1_3
  have ac17_a1_4 := fun o => keepa o c17_a1_4
  have ac17_a1_5 := fun o => keepa o c17_a1_5
  have ac17_a2_0 := fun o => keepa o c17_a2_0
  have ac17_a2_1 := fun o => keepa o c17_a2_1
  have ac17_a2_2 := fun o => keepa o c17_a2_2
  have ac17_a2_3 := fun o => keepa o c17_a2_3
  have ac17_a2_4 := fun o => keepa o c17_a2_4
  have ac17_a2_5 := fun o => keepa o c17_a2_5
  have ac17_o32_0 := fun o => keepa o c17_o32_0
  have ac17_o32_1 := fun o => keepa o c17_o32_1
  have ac17_o32_2 := fun o => keepa o c17_o32_2
  have ac17_o38_0 := fun o => keepa o c17_o38_0
  have ac17_o38_1 := fun o => keepa o c17_o38_1
  have ac17_o38_2 := fun o => keepa o c17_o38_2
  have ac17_o38_3 := fun o => keepa o c17_o38_3
  have ac17_o38_4 := fun o => keepa o c17_o38_4
  have ac17_o38_5 := fun o => keepa o c17_o38_5
  have ac17_o44_0 := fun o => keepa o c17_o44_0
  have ac17_o44_1 := fun o => keepa o c17_o44_1
  have ac17_o44_2 := fun o => keepa o c17_o44_2
  have ac17_o44_3 := fun o => keepa o c17_o44_3
  have ac17_o44_4 := fun o => keepa o c17_o44_4
  have ac17_o44_5 := fun o => keepa o c17_o44_5
  have rP0 := P0.out.below hb'; clear P0; have P0 := Lib.hid rP0; clear rP0
  have rP1 := P1.out.below hb'; clear P1; have P1 := Lib.hid rP1; clear rP1
  have rP2 := P2.out.below hb'; clear P2; have P2 := Lib.hid rP2; clear rP2
  have rFo30 := Fo30.out.below hb'; clear Fo30; have Fo30 := Lib.hid rFo30; clear rFo30
  have rFo32 := Fo32.out.below hb'; clear Fo32; have Fo32 := Lib.hid rFo32; clear rFo32
  have rFo38 := Fo38.out.below hb'; clear Fo38; have Fo38 := Lib.hid rFo38; clear rFo38
  have rFo44 := Fo44.out.below hb'; clear Fo44; have Fo44 := Lib.hid rFo44; clear rFo44
  have rFo50 := Fo50.out.below hb'; clear Fo50; have Fo50 := Lib.hid rFo50; clear rFo50
  have rB := below_chain B.out (by omega) hb'; clear B; have B := Lib.hid rB; clear rB
  have Fo64 := Lib.hid q17; clear q17
  have hm0_o64 := hx0_17
  have hI0_o64 : ∀ t ∈ js060, t.n ≤ 1000000000 := hi_of ((P2.out.rd).left.left) ((Fo64.out.rd).left.left) hx0_17 hI0_a2
  have hSm0_o64 : sumN js060 ≤ sumN its2 := sum_of ((P2.out.rd).left.left) ((Fo64.out.rd).left.left) hx0_17
  have hm1_o64 := hx1_17
  have hI1_o64 : ∀ t ∈ js162, t.n ≤ 1000000000 := hi_of ((P2.out.rd).left.right) ((Fo64.out.rd).left.right) hx1_17 hI1_a2
  have hSm1_o64 : sumN js162 ≤ sumN jts2 := sum_of ((P2.out.rd).left.right) ((Fo64.out.rd).left.right) hx1_17
  have em17 : Below w16.heap.size w16 w17 := hb'
  clear hb hb'
  go_wp2_with fail
  refine hK _ _ ⟨⟨_, em17⟩, rfl⟩ ?_
  clear hK K
  refine Mix.wpMix_chg (by rfl) (fun K hK => ?_)
  go_wp2_with fail
  refine (eqFormula_t _ _ _ _ _ _ _ _ _ _ _ _ _ _ _ _ _ _ _ _ _ _ _ _ _ _ _ (by exact (Fo44.out.rd)) (by exact (Fo64.out.rd)) (by omega) (by omega) (by omega) hI0_o44 (hm0_o44.trans hm0_o64.symm) hI1_o44 (hm1_o44.trans hm1_o64.symm)).mono ?_
  rintro e w18 ⟨rfl, hb⟩
  have hb' : Below w17.heap.size w17 w18 := (by first | (with_reducible exact hb) | (with_reducible exact up1 hb) | (with_reducible exact up2 hb) | (with_reducible exact up3 hb) | (with_reducible exact up4 hb) | (with_reducible exact below_of_drew hb) | (with_reducible exact below_of_drew (up1 hb)))
  have z18 := hb'.size
  have c18_a0_0 : w18.cell? ⟨w.heap.size, 0, none⟩ = some (.int .i64 sy0) := keepc hb' c17_a0_0
  clear c17_a0_0 ac17_a0_0
  have c18_a0_1 : w18.cell? ⟨w.heap.size, 1, none⟩ = some (.int .i64 st0) := keepc hb' c17_a0_1
  clear c17_a0_1 ac17_a0_1
  have c18_a0_2 : w18.cell? ⟨w.heap.size, 2, none⟩ = some (.slice A0 n0 c0) := keepc hb' c17_a0_2
  clear c17_a0_2 ac17_a0_2
  have c18_a1_0 : w18.cell? ⟨(w.heap.size + 1), 0, none⟩ = some (.int .i64 st1) := keepc hb' c17_a1_0
  clear c17_a1_0 ac17_a1_0
  have c18_a1_1 : w18.cell? ⟨(w.heap.size + 1), 1, none⟩ = some (.int .i64 hd1) := keepc hb' c17_a1_1
  clear c17_a1_1 ac17_a1_1
  have c18_a1_2 : w18.cell? ⟨(w.heap.size + 1), 2, none⟩ = some (.int .i64 at1) := keepc hb' c17_a1_2
  clear c17_a1_2 ac17_a1_2
  have c18_a1_3 : w18.cell? ⟨(w.heap.size + 1), 3, none⟩ = some (.slice A1 n1 c1) := keepc hb' c17_a1_3
  clear c17_a1_3 ac17_a1_3
  have c18_a1_4 : w18.cell? ⟨(w.heap.size + 1), 4, none⟩ = some (.slice B1 m1 d1) := keepc hb' c17_a1_4
  clear c17_a1_4 ac17_a1_4
  have c18_a1_5 : w18.cell? ⟨(w.heap.size + 1), 5, none⟩ = some (.slice C1 k1 e1) := keepc hb' c17_a1_5
  clear c17_a1_5 ac17_a1_5
  have c18_a2_0 : w18.cell? ⟨(w.heap.size + 1 + 1), 0, none⟩ = some (.int .i64 st2) := keepc hb' c17_a2_0
  clear c17_a2_0 ac17_a2_0
  have c18_a2_1 : w18.cell? ⟨(w.heap.size + 1 + 1), 1, none⟩ = some (.int .i64 hd2) := keepc hb' c17_a2_1
  clear c17_a2_1 ac17_a2_1
  have c18_a2_2 : w18.cell? ⟨(w.heap.size + 1 + 1), 2, none⟩ = some (.int .i64 at2) := keepc hb' c17_a2_2
  clear c17_a2_2 ac17_a2_2
  have c18_a2_3 : w18.cell? ⟨(w.heap.size + 1 + 1), 3, none⟩ = some (.slice A2 n2 c2) := keepc hb' c17_a2_3
  clear c17_a2_3 ac17_a2_3
  have c18_a2_4 : w18.cell? ⟨(w.heap.size + 1 + 1), 4, none⟩ = some (.slice B2 m2 d2) := keepc hb' c17_a2_4
  clear c17_a2_4 ac17_a2_4
  have c18_a2_5 : w18.cell? ⟨(w.heap.size + 1 + 1), 5, none⟩ = some (.slice C2 k2 e2) := keepc hb' c17_a2_5
  clear c17_a2_5 ac17_a2_5
  have c18_o32_0 : w18.cell? ⟨w8.heap.size, 0, none⟩ = some (.int .i64 sy0) := keepc hb' c17_o32_0
  clear c17_o32_0 ac17_o32_0
  have c18_o32_1 : w18.cell? ⟨w8.heap.size, 1, none⟩ = some (.int .i64 st0) := keepc hb' c17_o32_1
  clear c17_o32_1 ac17_o32_1
  have c18_o32_2 : w18.cell? ⟨w8.heap.size, 2, none⟩ = some (.slice (some ⟨g031, 0, none⟩) n0 n0) := keepc hb' c17_o32_2
  clear c17_o32_2 ac17_o32_2
  have c18_o38_0 : w18.cell? ⟨w9.heap.size, 0, none⟩ = some (.int .i64 st1) := keepc hb' c17_o38_0
  clear c17_o38_0 ac17_o38_0
  have c18_o38_1 : w18.cell? ⟨w9.heap.size, 1, none⟩ = some (.int .i64 hd1) := keepc hb' c17_o38_1
  clear c17_o38_1 ac17_o38_1
  have c18_o38_2 : w18.cell? ⟨w9.heap.size, 2, none⟩ = some (.int .i64 at1) := keepc hb' c17_o38_2
  clear c17_o38_2 ac17_o38_2
  have c18_o38_3 : w18.cell? ⟨w9.heap.size, 3, none⟩ = some (.slice (some ⟨g033, 0, none⟩) n1 n1) := keepc hb' c17_o38_3
  clear c17_o38_3 ac17_o38_3
  have c18_o38_4 : w18.cell? ⟨w9.heap.size, 4, none⟩ = some (.slice (some ⟨g135, 0, none⟩) m1 m1) := keepc hb' c17_o38_4
  clear c17_o38_4 ac17_o38_4
  have c18_o38_5 : w18.cell? ⟨w9.heap.size, 5, none⟩ = some (.slice (some ⟨g237, 0, none⟩) k1 k1) := keepc hb' c17_o38_5
  clear c17_o38_5 ac17_o38_5
  have c18_o44_0 : w18.cell? ⟨w10.heap.size, 0, none⟩ = some (.int .i64 st2) := keepc hb' c17_o44_0
  clear c17_o44_0 ac17_o44_0
  have c18_o44_1 : w18.cell? ⟨w10.heap.size, 1, none⟩ = some (.int .i64 hd2) := keepc hb' c17_o44_1
  clear c17_o44_1 ac17_o44_1
  have c18_o44_2 : w18.cell? ⟨w10.heap.size, 2, none⟩ = some (.int .i64 at2) := keepc hb' c17_o44_2
  clear c17_o44_2 ac17_o44_2
  have c18_o44_3 : w18.cell? ⟨w10.heap.size, 3, none⟩ = some (.slice (some ⟨g039, 0, none⟩) n2 n2) := keepc hb' c17_o44_3
  clear c17_o44_3 ac17_o44_3
  have c18_o44_4 : w18.cell? ⟨w10.heap.size, 4, none⟩ = some (.slice (some ⟨g141, 0, none⟩) m2 m2) := keepc hb' c17_o44_4
  clear c17_o44_4 ac17_o44_4
  have c18_o44_5 : w18.cell? ⟨w10.heap.size, 5, none⟩ = some (.slice (some ⟨g243, 0, none⟩) k2 k2) := keepc hb' c17_o44_5
  clear c17_o44_5 ac17_o44_5
  have ac18_a0_0 := fun o => keepa o c18_a0_0
  have ac18_a0_1 := fun o => keepa o c18_a0_1
  have ac18_a0_2 := fun o => keepa o c18_a0_2
  have ac18_a1_0 := fun o => keepa o c18_a1_0
  have ac18_a1_1 := fun o => keepa o c18_a1_1
  have ac18_a1_2 := fun o => keepa o c18_a1_2
  have ac18_a1_3 := fun o => keepa o c18_a1_3
  have ac18_a1_4 := fun o => keepa o c18_a1_4
  have ac18_a1_5 := fun o => keepa o c18_a1_5
  have ac18_a2_0 := fun o => keepa o c18_a2_0
  have ac18_a2_1 := fun o => keepa o c18_a2_1
  have ac18_a2_2 := fun o => keepa o c18_a2_2
  have ac18_a2_3 := fun o => keepa o c18_a2_3
  have ac18_a2_4 := fun o => keepa o c18_a2_4
  have ac18_a2_5 := fun o => keepa o c18_a2_5
  have ac18_o32_0 := fun o => keepa o c18_o32_0
  have ac18_o32_1 := fun o => keepa o c18_o32_1
  have ac18_o32_2 := fun o => keepa o c18_o32_2
  have ac18_o38_0 := fun o => keepa o c18_o38_0
  have ac18_o38_1 := fun o => keepa o c18_o38_1
  have ac18_o38_2 := fun o => keepa o c18_o38_2
  have ac18_o38_3 := fun o => keepa o c18_o38_3
  have ac18_o38_4 := fun o => keepa o c18_o38_4
  have ac18_o38_5 := fun o => keepa o c18_o38_5
  have ac18_o44_0 := fun o => keepa o c18_o44_0
  have ac18_o44_1 := fun o => keepa o c18_o44_1
  have ac18_o44_2 := fun o => keepa o c18_o44_2
  have ac18_o44_3 := fun o => keepa o c18_o44_3
  have ac18_o44_4 := fun o => keepa o c18_o44_4
  have ac18_o44_5 := fun o => keepa o c18_o44_5
  have rP0 := P0.out.below hb'; clear P0; have P0 := Lib.hid rP0; clear rP0
  have rP1 := P1.out.below hb'; clear P1; have P1 := Lib.hid rP1; clear rP1
  have rP2 := P2.out.below hb'; clear P2; have P2 := Lib.hid rP2; clear rP2
  have rFo30 := Fo30.out.below hb'; clear Fo30; have Fo30 := Lib.hid rFo30; clear rFo30
  have rFo32 := Fo32.out.below hb'; clear Fo32; have Fo32 := Lib.hid rFo32; clear rFo32
  have rFo38 := Fo38.out.below hb'; clear Fo38; have Fo38 := Lib.hid rFo38; clear rFo38
  have rFo44 := Fo44.out.below hb'; clear Fo44; have Fo44 := Lib.hid rFo44; clear rFo44
  have rFo50 := Fo50.out.below hb'; clear Fo50; have Fo50 := Lib.hid rFo50; clear rFo50
  have rFo64 := Fo64.out.below hb'; clear Fo64; have Fo64 := Lib.hid rFo64; clear rFo64
  have rB := below_chain B.out (by omega) hb'; clear B; have B := Lib.hid rB; clear rB
  have em18 : Below w16.heap.size w16 w18 := below_chain em17 (by omega) hb'
  clear hb hb'
  go_wp2_with fail
  refine hK _ _ ⟨⟨_, em18⟩, rfl⟩ ?_
  clear hK K
  repeat (first | (refine Mix.wpMix_read (by rfl) ?_; go_big_quiet_step (fail); refine wpQuiet_nil ?_) | (refine Mix.wpMix_pure (by rfl) ?_; go_big_quiet_step (fail); refine wpQuiet_nil ?_))
  (refine Mix.wpMix_nil ?_; try simp only [Exit.then])
  clear fx_c16_a0_0
  clear fx_c16_a0_1
  clear fx_c16_a0_2
  clear fx_c16_a1_0
  clear fx_c16_a1_1
  clear fx_c16_a1_2
  clear fx_c16_a1_3
  clear fx_c16_a1_4
  clear fx_c16_a1_5
  clear fx_c16_a2_0
  clear fx_c16_a2_1
  clear fx_c16_a2_2
  clear fx_c16_a2_3
  clear fx_c16_a2_4
  clear fx_c16_a2_5
  clear fx_c16_o32_0
  clear fx_c16_o32_1
  clear fx_c16_o32_2
  clear fx_c16_o38_0
  clear fx_c16_o38_1
  clear fx_c16_o38_2
  clear fx_c16_o38_3
  clear fx_c16_o38_4
  clear fx_c16_o38_5
  clear fx_c16_o44_0
  clear fx_c16_o44_1
  clear fx_c16_o44_2
  clear fx_c16_o44_3
  clear fx_c16_o44_4
  clear fx_c16_o44_5
  clear Fo64
  go_wp2_with fail
  refine (markMachine_c _ _ _ _ _ _ _ _ _ _ (by exact (Fo32.out)) (by omega) (by omega) (by omega)).mono ?_
  rintro e w19 ⟨rfl, q19, hk⟩
  have hk' : KeepR w7.heap.size w8.heap.size w18 w19 := (by first | (with_reducible exact hk) | (with_reducible exact hk.up1) | (with_reducible exact hk.up1.up1))
  have z19 := hk'.size
  have c19_a0_0 : w19.cell? ⟨w.heap.size, 0, none⟩ = some (.int .i64 sy0) := hk'.cell (by simp <;> omega) c18_a0_0
  clear c18_a0_0 ac18_a0_0
  have c19_a0_1 : w19.cell? ⟨w.heap.size, 1, none⟩ = some (.int .i64 st0) := hk'.cell (by simp <;> omega) c18_a0_1
  clear c18_a0_1 ac18_a0_1
  have c19_a0_2 : w19.cell? ⟨w.heap.size, 2, none⟩ = some (.slice A0 n0 c0) := hk'.cell (by simp <;> omega) c18_a0_2
  clear c18_a0_2 ac18_a0_2
  have c19_a1_0 : w19.cell? ⟨(w.heap.size + 1), 0, none⟩ = some (.int .i64 st1) := hk'.cell (by simp <;> omega) c18_a1_0
  clear c18_a1_0 ac18_a1_0
  have c19_a1_1 : w19.cell? ⟨(w.heap.size + 1), 1, none⟩ = some (.int .i64 hd1) := hk'.cell (by simp <;> omega) c18_a1_1
  clear c18_a1_1 ac18_a1_1
  have c19_a1_2 : w19.cell? ⟨(w.heap.size + 1), 2, none⟩ = some (.int .i64 at1) := hk'.cell (by simp <;> omega) c18_a1_2
  clear c18_a1_2 ac18_a1_2
  have c19_a1_3 : w19.cell? ⟨(w.heap.size + 1), 3, none⟩ = some (.slice A1 n1 c1) := hk'.cell (by simp <;> omega) c18_a1_3
  clear c18_a1_3 ac18_a1_3
  have c19_a1_4 : w19.cell? ⟨(w.heap.size + 1), 4, none⟩ = some (.slice B1 m1 d1) := hk'.cell (by simp <;> omega) c18_a1_4
  clear c18_a1_4 ac18_a1_4
  have c19_a1_5 : w19.cell? ⟨(w.heap.size + 1), 5, none⟩ = some (.slice C1 k1 e1) := hk'.cell (by simp <;> omega) c18_a1_5
  clear c18_a1_5 ac18_a1_5
  have c19_a2_0 : w19.cell? ⟨(w.heap.size + 1 + 1), 0, none⟩ = some (.int .i64 st2) := hk'.cell (by simp <;> omega) c18_a2_0
  clear c18_a2_0 ac18_a2_0
  have c19_a2_1 : w19.cell? ⟨(w.heap.size + 1 + 1), 1, none⟩ = some (.int .i64 hd2) := hk'.cell (by simp <;> omega) c18_a2_1
  clear c18_a2_1 ac18_a2_1
  have c19_a2_2 : w19.cell? ⟨(w.heap.size + 1 + 1), 2, none⟩ = some (.int .i64 at2) := hk'.cell (by simp <;> omega) c18_a2_2
  clear c18_a2_2 ac18_a2_2
  have c19_a2_3 : w19.cell? ⟨(w.heap.size + 1 + 1), 3, none⟩ = some (.slice A2 n2 c2) := hk'.cell (by simp <;> omega) c18_a2_3
  clear c18_a2_3 ac18_a2_3
  have c19_a2_4 : w19.cell? ⟨(w.heap.size + 1 + 1), 4, none⟩ = some (.slice B2 m2 d2) := hk'.cell (by simp <;> omega) c18_a2_4
  clear c18_a2_4 ac18_a2_4
  have c19_a2_5 : w19.cell? ⟨(w.heap.size + 1 + 1), 5, none⟩ = some (.slice C2 k2 e2) := hk'.cell (by simp <;> omega) c18_a2_5
  clear c18_a2_5 ac18_a2_5
  have c19_o32_0 : w19.cell? ⟨w8.heap.size, 0, none⟩ = some (.int .i64 sy0) := hk'.cell (by simp <;> omega) c18_o32_0
  clear c18_o32_0 ac18_o32_0
  have c19_o32_1 : w19.cell? ⟨w8.heap.size, 1, none⟩ = some (.int .i64 st0) := hk'.cell (by simp <;> omega) c18_o32_1
  clear c18_o32_1 ac18_o32_1
  have c19_o32_2 : w19.cell? ⟨w8.heap.size, 2, none⟩ = some (.slice (some ⟨g031, 0, none⟩) n0 n0) := hk'.cell (by simp <;> omega) c18_o32_2
  clear c18_o32_2 ac18_o32_2
  have c19_o38_0 : w19.cell? ⟨w9.heap.size, 0, none⟩ = some (.int .i64 st1) := hk'.cell (by simp <;> omega) c18_o38_0
  clear c18_o38_0 ac18_o38_0
  have c19_o38_1 : w19.cell? ⟨w9.heap.size, 1, none⟩ = some (.int .i64 hd1) := hk'.cell (by simp <;> omega) c18_o38_1
  clear c18_o38_1 ac18_o38_1
  have c19_o38_2 : w19.cell? ⟨w9.heap.size, 2, none⟩ = some (.int .i64 at1) := hk'.cell (by simp <;> omega) c18_o38_2
  clear c18_o38_2 ac18_o38_2
  have c19_o38_3 : w19.cell? ⟨w9.heap.size, 3, none⟩ = some (.slice (some ⟨g033, 0, none⟩) n1 n1) := hk'.cell (by simp <;> omega) c18_o38_3
  clear c18_o38_3 ac18_o38_3
  have c19_o38_4 : w19.cell? ⟨w9.heap.size, 4, none⟩ = some (.slice (some ⟨g135, 0, none⟩) m1 m1) := hk'.cell (by simp <;> omega) c18_o38_4
  clear c18_o38_4 ac18_o38_4
  have c19_o38_5 : w19.cell? ⟨w9.heap.size, 5, none⟩ = some (.slice (some ⟨g237, 0, none⟩) k1 k1) := hk'.cell (by simp <;> omega) c18_o38_5
  clear c18_o38_5 ac18_o38_5
  have c19_o44_0 : w19.cell? ⟨w10.heap.size, 0, none⟩ = some (.int .i64 st2) := hk'.cell (by simp <;> omega) c18_o44_0
  clear c18_o44_0 ac18_o44_0
  have c19_o44_1 : w19.cell? ⟨w10.heap.size, 1, none⟩ = some (.int .i64 hd2) := hk'.cell (by simp <;> omega) c18_o44_1
  clear c18_o44_1 ac18_o44_1
  have c19_o44_2 : w19.cell? ⟨w10.heap.size, 2, none⟩ = some (.int .i64 at2) := hk'.cell (by simp <;> omega) c18_o44_2
  clear c18_o44_2 ac18_o44_2
  have c19_o44_3 : w19.cell? ⟨w10.heap.size, 3, none⟩ = some (.slice (some ⟨g039, 0, none⟩) n2 n2) := hk'.cell (by simp <;> omega) c18_o44_3
  clear c18_o44_3 ac18_o44_3
  have c19_o44_4 : w19.cell? ⟨w10.heap.size, 4, none⟩ = some (.slice (some ⟨g141, 0, none⟩) m2 m2) := hk'.cell (by simp <;> omega) c18_o44_4
  clear c18_o44_4 ac18_o44_4
  have c19_o44_5 : w19.cell? ⟨w10.heap.size, 5, none⟩ = some (.slice (some ⟨g243, 0, none⟩) k2 k2) := hk'.cell (by simp <;> omega) c18_o44_5
  clear c18_o44_5 ac18_o44_5
  have ac19_a0_0 := fun o => keepa o c19_a0_0
  have ac19_a0_1 := fun o => keepa o c19_a0_1
  have ac19_a0_2 := fun o => keepa o c19_a0_2
  have ac19_a1_0 := fun o => keepa o c19_a1_0
  have ac19_a1_1 := fun o => keepa o c19_a1_1
  have ac19_a1_2 := fun o => keepa o c19_a1_2
  have ac19_a1_3 := fun o => keepa o c19_a1_3
  have ac19_a1_4 := fun o => keepa o c19_a1_4
  have ac19_a1_5 := fun o => keepa o c19_a1_5
  have ac19_a2_0 := fun o => keepa o c19_a2_0
  have ac19_a2_1 := fun o => keepa o c19_a2_1
  have ac19_a2_2 := fun o => keepa o c19_a2_2
  have ac19_a2_3 := fun o => keepa o c19_a2_3
  have ac19_a2_4 := fun o => keepa o c19_a2_4
  have ac19_a2_5 := fun o => keepa o c19_a2_5
  have ac19_o32_0 := fun o => keepa o c19_o32_0
  have ac19_o32_1 := fun o => keepa o c19_o32_1
  have ac19_o32_2 := fun o => keepa o c19_o32_2
  have ac19_o38_0 := fun o => keepa o c19_o38_0
  have ac19_o38_1 := fun o => keepa o c19_o38_1
  have ac19_o38_2 := fun o => keepa o c19_o38_2
  have ac19_o38_3 := fun o => keepa o c19_o38_3
  have ac19_o38_4 := fun o => keepa o c19_o38_4
  have ac19_o38_5 := fun o => keepa o c19_o38_5
  have ac19_o44_0 := fun o => keepa o c19_o44_0
  have ac19_o44_1 := fun o => keepa o c19_o44_1
  have ac19_o44_2 := fun o => keepa o c19_o44_2
  have ac19_o44_3 := fun o => keepa o c19_o44_3
  have ac19_o44_4 := fun o => keepa o c19_o44_4
  have ac19_o44_5 := fun o => keepa o c19_o44_5
  have rP0 := P0.out.keep hk' (by omega); clear P0; have P0 := Lib.hid rP0; clear rP0
  have rP1 := P1.out.keep hk' (by omega); clear P1; have P1 := Lib.hid rP1; clear rP1
  have rP2 := P2.out.keep hk' (by omega); clear P2; have P2 := Lib.hid rP2; clear rP2
  have rFo30 := Fo30.out.keep hk' (by omega); clear Fo30; have Fo30 := Lib.hid rFo30; clear rFo30
  have rFo32 := q19; clear Fo32; have Fo32 := Lib.hid rFo32; clear rFo32 q19
  have rFo38 := Fo38.out.keep hk' (by omega); clear Fo38; have Fo38 := Lib.hid rFo38; clear rFo38
  have rFo44 := Fo44.out.keep hk' (by omega); clear Fo44; have Fo44 := Lib.hid rFo44; clear rFo44
  have rFo50 := Fo50.out.keep hk' (by omega); clear Fo50; have Fo50 := Lib.hid rFo50; clear rFo50
  have rB := B.out.trans (hk'.below (B := w.heap.size) (by omega) (by omega)); clear B; have B := Lib.hid rB; clear rB
  clear hk hk'
  go_wp2_with fail
  refine (markFormula_c _ _ _ _ _ _ _ _ _ _ _ _ _ _ _ _ _ _ _ (by exact (Fo38.out)) (by omega) (by omega) (by omega) hI0_o38 (by omega) hI1_o38 (by omega) (by first | omega | (simp; omega)) (by omega) (by omega)).mono ?_
  rintro e w20 ⟨rfl, q20, hk⟩
  have hk' : KeepR (w8.heap.size + 1) w9.heap.size w19 w20 := (by first | (with_reducible exact hk) | (with_reducible exact hk.up1) | (with_reducible exact hk.up1.up1))
  have z20 := hk'.size
  have c20_a0_0 : w20.cell? ⟨w.heap.size, 0, none⟩ = some (.int .i64 sy0) := hk'.cell (by simp <;> omega) c19_a0_0
  clear c19_a0_0 ac19_a0_0
  have c20_a0_1 : w20.cell? ⟨w.heap.size, 1, none⟩ = some (.int .i64 st0) := hk'.cell (by simp <;> omega) c19_a0_1
  clear c19_a0_1 ac19_a0_1
  have c20_a0_2 : w20.cell? ⟨w.heap.size, 2, none⟩ = some (.slice A0 n0 c0) := hk'.cell (by simp <;> omega) c19_a0_2
  clear c19_a0_2 ac19_a0_2
  have c20_a1_0 : w20.cell? ⟨(w.heap.size + 1), 0, none⟩ = some (.int .i64 st1) := hk'.cell (by simp <;> omega) c19_a1_0
  clear c19_a1_0 ac19_a1_0
  have c20_a1_1 : w20.cell? ⟨(w.heap.size + 1), 1, none⟩ = some (.int .i64 hd1) := hk'.cell (by simp <;> omega) c19_a1_1
  clear c19_a1_1 ac19_a1_1
  have c20_a1_2 : w20.cell? ⟨(w.heap.size + 1), 2, none⟩ = some (.int .i64 at1) := hk'.cell (by simp <;> omega) c19_a1_2
  clear c19_a1_2 ac19_a1_2
  have c20_a1_3 : w20.cell? ⟨(w.heap.size + 1), 3, none⟩ = some (.slice A1 n1 c1) := hk'.cell (by simp <;> omega) c19_a1_3
  clear c19_a1_3 ac19_a1_3
  have c20_a1_4 : w20.cell? ⟨(w.heap.size + 1), 4, none⟩ = some (.slice B1 m1 d1) := hk'.cell (by simp <;> omega) c19_a1_4
  clear c19_a1_4 ac19_a1_4
  have c20_a1_5 : w20.cell? ⟨(w.heap.size + 1), 5, none⟩ = some (.slice C1 k1 e1) := hk'.cell (by simp <;> omega) c19_a1_5
  clear c19_a1_5 ac19_a1_5
  have c20_a2_0 : w20.cell? ⟨(w.heap.size + 1 + 1), 0, none⟩ = some (.int .i64 st2) := hk'.cell (by simp <;> omega) c19_a2_0
  clear c19_a2_0 ac19_a2_0
  have c20_a2_1 : w20.cell? ⟨(w.heap.size + 1 + 1), 1, none⟩ = some (.int .i64 hd2) := hk'.cell (by simp <;> omega) c19_a2_1
  clear c19_a2_1 ac19_a2_1
  have c20_a2_2 : w20.cell? ⟨(w.heap.size + 1 + 1), 2, none⟩ = some (.int .i64 at2) := hk'.cell (by simp <;> omega) c19_a2_2
  clear c19_a2_2 ac19_a2_2
  have c20_a2_3 : w20.cell? ⟨(w.heap.size + 1 + 1), 3, none⟩ = some (.slice A2 n2 c2) := hk'.cell (by simp <;> omega) c19_a2_3
  clear c19_a2_3 ac19_a2_3
  have c20_a2_4 : w20.cell? ⟨(w.heap.size + 1 + 1), 4, none⟩ = some (.slice B2 m2 d2) := hk'.cell (by simp <;> omega) c19_a2_4
  clear c19_a2_4 ac19_a2_4
  have c20_a2_5 : w20.cell? ⟨(w.heap.size + 1 + 1), 5, none⟩ = some (.slice C2 k2 e2) := hk'.cell (by simp <;> omega) c19_a2_5
  clear c19_a2_5 ac19_a2_5
  have c20_o32_0 : w20.cell? ⟨w8.heap.size, 0, none⟩ = some (.int .i64 sy0) := hk'.cell (by simp <;> omega) c19_o32_0
  clear c19_o32_0 ac19_o32_0
  have c20_o32_1 : w20.cell? ⟨w8.heap.size, 1, none⟩ = some (.int .i64 st0) := hk'.cell (by simp <;> omega) c19_o32_1
  clear c19_o32_1 ac19_o32_1
  have c20_o32_2 : w20.cell? ⟨w8.heap.size, 2, none⟩ = some (.slice (some ⟨g031, 0, none⟩) n0 n0) := hk'.cell (by simp <;> omega) c19_o32_2
  clear c19_o32_2 ac19_o32_2
  have c20_o38_0 : w20.cell? ⟨w9.heap.size, 0, none⟩ = some (.int .i64 st1) := hk'.cell (by simp <;> omega) c19_o38_0
  clear c19_o38_0 ac19_o38_0
  have c20_o38_1 : w20.cell? ⟨w9.heap.size, 1, none⟩ = some (.int .i64 hd1) := hk'.cell (by simp <;> omega) c19_o38_1
  clear c19_o38_1 ac19_o38_1
  have c20_o38_2 : w20.cell? ⟨w9.heap.size, 2, none⟩ = some (.int .i64 at1) := hk'.cell (by simp <;> omega) c19_o38_2
  clear c19_o38_2 ac19_o38_2
  have c20_o38_3 : w20.cell? ⟨w9.heap.size, 3, none⟩ = some (.slice (some ⟨g033, 0, none⟩) n1 n1) := hk'.cell (by simp <;> omega) c19_o38_3
  clear c19_o38_3 ac19_o38_3
  have c20_o38_4 : w20.cell? ⟨w9.heap.size, 4, none⟩ = some (.slice (some ⟨g135, 0, none⟩) m1 m1) := hk'.cell (by simp <;> omega) c19_o38_4
  clear c19_o38_4 ac19_o38_4
  have c20_o38_5 : w20.cell? ⟨w9.heap.size, 5, none⟩ = some (.slice (some ⟨g237, 0, none⟩) k1 k1) := hk'.cell (by simp <;> omega) c19_o38_5
  clear c19_o38_5 ac19_o38_5
  have c20_o44_0 : w20.cell? ⟨w10.heap.size, 0, none⟩ = some (.int .i64 st2) := hk'.cell (by simp <;> omega) c19_o44_0
  clear c19_o44_0 ac19_o44_0
  have c20_o44_1 : w20.cell? ⟨w10.heap.size, 1, none⟩ = some (.int .i64 hd2) := hk'.cell (by simp <;> omega) c19_o44_1
  clear c19_o44_1 ac19_o44_1
  have c20_o44_2 : w20.cell? ⟨w10.heap.size, 2, none⟩ = some (.int .i64 at2) := hk'.cell (by simp <;> omega) c19_o44_2
  clear c19_o44_2 ac19_o44_2
  have c20_o44_3 : w20.cell? ⟨w10.heap.size, 3, none⟩ = some (.slice (some ⟨g039, 0, none⟩) n2 n2) := hk'.cell (by simp <;> omega) c19_o44_3
  clear c19_o44_3 ac19_o44_3
  have c20_o44_4 : w20.cell? ⟨w10.heap.size, 4, none⟩ = some (.slice (some ⟨g141, 0, none⟩) m2 m2) := hk'.cell (by simp <;> omega) c19_o44_4
  clear c19_o44_4 ac19_o44_4
  have c20_o44_5 : w20.cell? ⟨w10.heap.size, 5, none⟩ = some (.slice (some ⟨g243, 0, none⟩) k2 k2) := hk'.cell (by simp <;> omega) c19_o44_5
  clear c19_o44_5 ac19_o44_5
  have ac20_a0_0 := fun o => keepa o c20_a0_0
  have ac20_a0_1 := fun o => keepa o c20_a0_1
  have ac20_a0_2 := fun o => keepa o c20_a0_2
  have ac20_a1_0 := fun o => keepa o c20_a1_0
  have ac20_a1_1 := fun o => keepa o c20_a1_1
  have ac20_a1_2 := fun o => keepa o c20_a1_2
  have ac20_a1_3 := fun o => keepa o c20_a1_3
  have ac20_a1_4 := fun o => keepa o c20_a1_4
  have ac20_a1_5 := fun o => keepa o c20_a1_5
  have ac20_a2_0 := fun o => keepa o c20_a2_0
  have ac20_a2_1 := fun o => keepa o c20_a2_1
  have ac20_a2_2 := fun o => keepa o c20_a2_2
  have ac20_a2_3 := fun o => keepa o c20_a2_3
  have ac20_a2_4 := fun o => keepa o c20_a2_4
  have ac20_a2_5 := fun o => keepa o c20_a2_5
  have ac20_o32_0 := fun o => keepa o c20_o32_0
  have ac20_o32_1 := fun o => keepa o c20_o32_1
  have ac20_o32_2 := fun o => keepa o c20_o32_2
  have ac20_o38_0 := fun o => keepa o c20_o38_0
  have ac20_o38_1 := fun o => keepa o c20_o38_1
  have ac20_o38_2 := fun o => keepa o c20_o38_2
  have ac20_o38_3 := fun o => keepa o c20_o38_3
  have ac20_o38_4 := fun o => keepa o c20_o38_4
  have ac20_o38_5 := fun o => keepa o c20_o38_5
  have ac20_o44_0 := fun o => keepa o c20_o44_0
  have ac20_o44_1 := fun o => keepa o c20_o44_1
  have ac20_o44_2 := fun o => keepa o c20_o44_2
  have ac20_o44_3 := fun o => keepa o c20_o44_3
  have ac20_o44_4 := fun o => keepa o c20_o44_4
  have ac20_o44_5 := fun o => keepa o c20_o44_5
  have rP0 := P0.out.keep hk' (by omega); clear P0; have P0 := Lib.hid rP0; clear rP0
  have rP1 := P1.out.keep hk' (by omega); clear P1; have P1 := Lib.hid rP1; clear rP1
  have rP2 := P2.out.keep hk' (by omega); clear P2; have P2 := Lib.hid rP2; clear rP2
  have rFo30 := Fo30.out.keep hk' (by omega); clear Fo30; have Fo30 := Lib.hid rFo30; clear rFo30
  have rFo32 := Fo32.out.keep hk' (by omega); clear Fo32; have Fo32 := Lib.hid rFo32; clear rFo32
  have rFo38 := q20; clear Fo38; have Fo38 := Lib.hid rFo38; clear rFo38 q20
  have rFo44 := Fo44.out.keep hk' (by omega); clear Fo44; have Fo44 := Lib.hid rFo44; clear rFo44
  have rFo50 := Fo50.out.keep hk' (by omega); clear Fo50; have Fo50 := Lib.hid rFo50; clear rFo50
  have rB := B.out.trans (hk'.below (B := w.heap.size) (by omega) (by omega)); clear B; have B := Lib.hid rB; clear rB
  clear hk hk'
  go_wp2_with fail
  refine (markFormula_c _ _ _ _ _ _ _ _ _ _ _ _ _ _ _ _ _ _ _ (by exact (Fo44.out)) (by omega) (by omega) (by omega) hI0_o44 (by omega) hI1_o44 (by omega) (by first | omega | (simp; omega)) (by omega) (by omega)).mono ?_
  rintro e w21 ⟨rfl, q21, hk⟩
  have hk' : KeepR (w9.heap.size + 1) w10.heap.size w20 w21 := (by first | (with_reducible exact hk) | (with_reducible exact hk.up1) | (with_reducible exact hk.up1.up1))
  have z21 := hk'.size
  have c21_a0_0 : w21.cell? ⟨w.heap.size, 0, none⟩ = some (.int .i64 sy0) := hk'.cell (by simp <;> omega) c20_a0_0
  clear c20_a0_0 ac20_a0_0
  have c21_a0_1 : w21.cell? ⟨w.heap.size, 1, none⟩ = some (.int .i64 st0) := hk'.cell (by simp <;> omega) c20_a0_1
  clear c20_a0_1 ac20_a0_1
  have c21_a0_2 : w21.cell? ⟨w.heap.size, 2, none⟩ = some (.slice A0 n0 c0) := hk'.cell (by simp <;> omega) c20_a0_2
  clear c20_a0_2 ac20_a0_2
  have c21_a1_0 : w21.cell? ⟨(w.heap.size + 1), 0, none⟩ = some (.int .i64 st1) := hk'.cell (by simp <;> omega) c20_a1_0
  clear c20_a1_0 ac20_a1_0
  have c21_a1_1 : w21.cell? ⟨(w.heap.size + 1), 1, none⟩ = some (.int .i64 hd1) := hk'.cell (by simp <;> omega) c20_a1_1
  clear c20_a1_1 ac20_a1_1
  have c21_a1_2 : w21.cell? ⟨(w.heap.size + 1), 2, none⟩ = some (.int .i64 at1) := hk'.cell (by simp <;> omega) c20_a1_2
  clear c20_a1_2 ac20_a1_2
  have c21_a1_3 : w21.cell? ⟨(w.heap.size + 1), 3, none⟩ = some (.slice A1 n1 c1) := hk'.cell (by simp <;> omega) c20_a1_3
  clear c20_a1_3 ac20_a1_3
  have c21_a1_4 : w21.cell? ⟨(w.heap.size + 1), 4, none⟩ = some (.slice B1 m1 d1) := hk'.cell (by simp <;> omega) c20_a1_4
  clear c20_a1_4 ac20_a1_4
  have c21_a1_5 : w21.cell? ⟨(w.heap.size + 1), 5, none⟩ = some (.slice C1 k1 e1) := hk'.cell (by simp <;> omega) c20_a1_5
  clear c20_a1_5 ac20_a1_5
  have c21_a2_0 : w21.cell? ⟨(w.heap.size + 1 + 1), 0, none⟩ = some (.int .i64 st2) := hk'.cell (by simp <;> omega) c20_a2_0
  clear c20_a2_0 ac20_a2_0
  have c21_a2_1 : w21.cell? ⟨(w.heap.size + 1 + 1), 1, none⟩ = some (.int .i64 hd2) := hk'.cell (by simp <;> omega) c20_a2_1
  clear c20_a2_1 ac20_a2_1
  have c21_a2_2 : w21.cell? ⟨(w.heap.size + 1 + 1), 2, none⟩ = some (.int .i64 at2) := hk'.cell (by simp <;> omega) c20_a2_2
  clear c20_a2_2 ac20_a2_2
  have c21_a2_3 : w21.cell? ⟨(w.heap.size + 1 + 1), 3, none⟩ = some (.slice A2 n2 c2) := hk'.cell (by simp <;> omega) c20_a2_3
  clear c20_a2_3 ac20_a2_3
  have c21_a2_4 : w21.cell? ⟨(w.heap.size + 1 + 1), 4, none⟩ = some (.slice B2 m2 d2) := hk'.cell (by simp <;> omega) c20_a2_4
  clear c20_a2_4 ac20_a2_4
  have c21_a2_5 : w21.cell? ⟨(w.heap.size + 1 + 1), 5, none⟩ = some (.slice C2 k2 e2) := hk'.cell (by simp <;> omega) c20_a2_5
  clear c20_a2_5 ac20_a2_5
  have c21_o32_0 : w21.cell? ⟨w8.heap.size, 0, none⟩ = some (.int .i64 sy0) := hk'.cell (by simp <;> omega) c20_o32_0
  clear c20_o32_0 ac20_o32_0
  have c21_o32_1 : w21.cell? ⟨w8.heap.size, 1, none⟩ = some (.int .i64 st0) := hk'.cell (by simp <;> omega) c20_o32_1
  clear c20_o32_1 ac20_o32_1
  have c21_o32_2 : w21.cell? ⟨w8.heap.size, 2, none⟩ = some (.slice (some ⟨g031, 0, none⟩) n0 n0) := hk'.cell (by simp <;> omega) c20_o32_2
  clear c20_o32_2 ac20_o32_2
  have c21_o38_0 : w21.cell? ⟨w9.heap.size, 0, none⟩ = some (.int .i64 st1) := hk'.cell (by simp <;> omega) c20_o38_0
  clear c20_o38_0 ac20_o38_0
  have c21_o38_1 : w21.cell? ⟨w9.heap.size, 1, none⟩ = some (.int .i64 hd1) := hk'.cell (by simp <;> omega) c20_o38_1
  clear c20_o38_1 ac20_o38_1
  have c21_o38_2 : w21.cell? ⟨w9.heap.size, 2, none⟩ = some (.int .i64 at1) := hk'.cell (by simp <;> omega) c20_o38_2
  clear c20_o38_2 ac20_o38_2
  have c21_o38_3 : w21.cell? ⟨w9.heap.size, 3, none⟩ = some (.slice (some ⟨g033, 0, none⟩) n1 n1) := hk'.cell (by simp <;> omega) c20_o38_3
  clear c20_o38_3 ac20_o38_3
  have c21_o38_4 : w21.cell? ⟨w9.heap.size, 4, none⟩ = some (.slice (some ⟨g135, 0, none⟩) m1 m1) := hk'.cell (by simp <;> omega) c20_o38_4
  clear c20_o38_4 ac20_o38_4
  have c21_o38_5 : w21.cell? ⟨w9.heap.size, 5, none⟩ = some (.slice (some ⟨g237, 0, none⟩) k1 k1) := hk'.cell (by simp <;> omega) c20_o38_5
  clear c20_o38_5 ac20_o38_5
  have c21_o44_0 : w21.cell? ⟨w10.heap.size, 0, none⟩ = some (.int .i64 st2) := hk'.cell (by simp <;> omega) c20_o44_0
  clear c20_o44_0 ac20_o44_0
  have c21_o44_1 : w21.cell? ⟨w10.heap.size, 1, none⟩ = some (.int .i64 hd2) := hk'.cell (by simp <;> omega) c20_o44_1
  clear c20_o44_1 ac20_o44_1
  have c21_o44_2 : w21.cell? ⟨w10.heap.size, 2, none⟩ = some (.int .i64 at2) := hk'.cell (by simp <;> omega) c20_o44_2
  clear c20_o44_2 ac20_o44_2
  have c21_o44_3 : w21.cell? ⟨w10.heap.size, 3, none⟩ = some (.slice (some ⟨g039, 0, none⟩) n2 n2) := hk'.cell (by simp <;> omega) c20_o44_3
  clear c20_o44_3 ac20_o44_3
  have c21_o44_4 : w21.cell? ⟨w10.heap.size, 4, none⟩ = some (.slice (some ⟨g141, 0, none⟩) m2 m2) := hk'.cell (by simp <;> omega) c20_o44_4
  clear c20_o44_4 ac20_o44_4
  have c21_o44_5 : w21.cell? ⟨w10.heap.size, 5, none⟩ = some (.slice (some ⟨g243, 0, none⟩) k2 k2) := hk'.cell (by simp <;> omega) c20_o44_5
  clear c20_o44_5 ac20_o44_5
  have ac21_a0_0 := fun o => keepa o c21_a0_0
  have ac21_a0_1 := fun o => keepa o c21_a0_1
  have ac21_a0_2 := fun o => keepa o c21_a0_2
  have ac21_a1_0 := fun o => keepa o c21_a1_0
  have ac21_a1_1 := fun o => keepa o c21_a1_1
  have ac21_a1_2 := fun o => keepa o c21_a1_2
  have ac21_a1_3 := fun o => keepa o c21_a1_3
  have ac21_a1_4 := fun o => keepa o c21_a1_4
  have ac21_a1_5 := fun o => keepa o c21_a1_5
  have ac21_a2_0 := fun o => keepa o c21_a2_0
  have ac21_a2_1 := fun o => keepa o c21_a2_1
  have ac21_a2_2 := fun o => keepa o c21_a2_2
  have ac21_a2_3 := fun o => keepa o c21_a2_3
  have ac21_a2_4 := fun o => keepa o c21_a2_4
  have ac21_a2_5 := fun o => keepa o c21_a2_5
  have ac21_o32_0 := fun o => keepa o c21_o32_0
  have ac21_o32_1 := fun o => keepa o c21_o32_1
  have ac21_o32_2 := fun o => keepa o c21_o32_2
  have ac21_o38_0 := fun o => keepa o c21_o38_0
  have ac21_o38_1 := fun o => keepa o c21_o38_1
  have ac21_o38_2 := fun o => keepa o c21_o38_2
  have ac21_o38_3 := fun o => keepa o c21_o38_3
  have ac21_o38_4 := fun o => keepa o c21_o38_4
  have ac21_o38_5 := fun o => keepa o c21_o38_5
  have ac21_o44_0 := fun o => keepa o c21_o44_0
  have ac21_o44_1 := fun o => keepa o c21_o44_1
  have ac21_o44_2 := fun o => keepa o c21_o44_2
  have ac21_o44_3 := fun o => keepa o c21_o44_3
  have ac21_o44_4 := fun o => keepa o c21_o44_4
  have ac21_o44_5 := fun o => keepa o c21_o44_5
  have rP0 := P0.out.keep hk' (by omega); clear P0; have P0 := Lib.hid rP0; clear rP0
  have rP1 := P1.out.keep hk' (by omega); clear P1; have P1 := Lib.hid rP1; clear rP1
  have rP2 := P2.out.keep hk' (by omega); clear P2; have P2 := Lib.hid rP2; clear rP2
  have rFo30 := Fo30.out.keep hk' (by omega); clear Fo30; have Fo30 := Lib.hid rFo30; clear rFo30
  have rFo32 := Fo32.out.keep hk' (by omega); clear Fo32; have Fo32 := Lib.hid rFo32; clear rFo32
  have rFo38 := Fo38.out.keep hk' (by omega); clear Fo38; have Fo38 := Lib.hid rFo38; clear rFo38
  have rFo44 := q21; clear Fo44; have Fo44 := Lib.hid rFo44; clear rFo44 q21
  have rFo50 := Fo50.out.keep hk' (by omega); clear Fo50; have Fo50 := Lib.hid rFo50; clear rFo50
  have rB := B.out.trans (hk'.below (B := w.heap.size) (by omega) (by omega)); clear B; have B := Lib.hid rB; clear rB
  clear hk hk'
  go_wp2_with fail
  refine (eqInt64S_t _ _ _ _ _ _ _ _ (by exact (Fo50.out.rdI)) (by exact (Fo30.out.rdI)) (by omega)).mono ?_
  rintro e w22 ⟨rfl, hb⟩
  have hb' : Below w21.heap.size w21 w22 := (by first | (with_reducible exact hb) | (with_reducible exact up1 hb) | (with_reducible exact up2 hb) | (with_reducible exact up3 hb) | (with_reducible exact up4 hb) | (with_reducible exact below_of_drew hb) | (with_reducible exact below_of_drew (up1 hb)))
  have z22 := hb'.size
  have c22_a0_0 : w22.cell? ⟨w.heap.size, 0, none⟩ = some (.int .i64 sy0) := keepc hb' c21_a0_0
  clear c21_a0_0 ac21_a0_0
  have c22_a0_1 : w22.cell? ⟨w.heap.size, 1, none⟩ = some (.int .i64 st0) := keepc hb' c21_a0_1
  clear c21_a0_1 ac21_a0_1
  have c22_a0_2 : w22.cell? ⟨w.heap.size, 2, none⟩ = some (.slice A0 n0 c0) := keepc hb' c21_a0_2
  clear c21_a0_2 ac21_a0_2
  have c22_a1_0 : w22.cell? ⟨(w.heap.size + 1), 0, none⟩ = some (.int .i64 st1) := keepc hb' c21_a1_0
  clear c21_a1_0 ac21_a1_0
  have c22_a1_1 : w22.cell? ⟨(w.heap.size + 1), 1, none⟩ = some (.int .i64 hd1) := keepc hb' c21_a1_1
  clear c21_a1_1 ac21_a1_1
  have c22_a1_2 : w22.cell? ⟨(w.heap.size + 1), 2, none⟩ = some (.int .i64 at1) := keepc hb' c21_a1_2
  clear c21_a1_2 ac21_a1_2
  have c22_a1_3 : w22.cell? ⟨(w.heap.size + 1), 3, none⟩ = some (.slice A1 n1 c1) := keepc hb' c21_a1_3
  clear c21_a1_3 ac21_a1_3
  have c22_a1_4 : w22.cell? ⟨(w.heap.size + 1), 4, none⟩ = some (.slice B1 m1 d1) := keepc hb' c21_a1_4
  clear c21_a1_4 ac21_a1_4
  have c22_a1_5 : w22.cell? ⟨(w.heap.size + 1), 5, none⟩ = some (.slice C1 k1 e1) := keepc hb' c21_a1_5
  clear c21_a1_5 ac21_a1_5
  have c22_a2_0 : w22.cell? ⟨(w.heap.size + 1 + 1), 0, none⟩ = some (.int .i64 st2) := keepc hb' c21_a2_0
  clear c21_a2_0 ac21_a2_0
  have c22_a2_1 : w22.cell? ⟨(w.heap.size + 1 + 1), 1, none⟩ = some (.int .i64 hd2) := keepc hb' c21_a2_1
  clear c21_a2_1 ac21_a2_1
  have c22_a2_2 : w22.cell? ⟨(w.heap.size + 1 + 1), 2, none⟩ = some (.int .i64 at2) := keepc hb' c21_a2_2
  clear c21_a2_2 ac21_a2_2
  have c22_a2_3 : w22.cell? ⟨(w.heap.size + 1 + 1), 3, none⟩ = some (.slice A2 n2 c2) := keepc hb' c21_a2_3
  clear c21_a2_3 ac21_a2_3
  have c22_a2_4 : w22.cell? ⟨(w.heap.size + 1 + 1), 4, none⟩ = some (.slice B2 m2 d2) := keepc hb' c21_a2_4
  clear c21_a2_4 ac21_a2_4
  have c22_a2_5 : w22.cell? ⟨(w.heap.size + 1 + 1), 5, none⟩ = some (.slice C2 k2 e2) := keepc hb' c21_a2_5
  clear c21_a2_5 ac21_a2_5
  have c22_o32_0 : w22.cell? ⟨w8.heap.size, 0, none⟩ = some (.int .i64 sy0) := keepc hb' c21_o32_0
  clear c21_o32_0 ac21_o32_0
  have c22_o32_1 : w22.cell? ⟨w8.heap.size, 1, none⟩ = some (.int .i64 st0) := keepc hb' c21_o32_1
  clear c21_o32_1 ac21_o32_1
  have c22_o32_2 : w22.cell? ⟨w8.heap.size, 2, none⟩ = some (.slice (some ⟨g031, 0, none⟩) n0 n0) := keepc hb' c21_o32_2
  clear c21_o32_2 ac21_o32_2
  have c22_o38_0 : w22.cell? ⟨w9.heap.size, 0, none⟩ = some (.int .i64 st1) := keepc hb' c21_o38_0
  clear c21_o38_0 ac21_o38_0
  have c22_o38_1 : w22.cell? ⟨w9.heap.size, 1, none⟩ = some (.int .i64 hd1) := keepc hb' c21_o38_1
  clear c21_o38_1 ac21_o38_1
  have c22_o38_2 : w22.cell? ⟨w9.heap.size, 2, none⟩ = some (.int .i64 at1) := keepc hb' c21_o38_2
  clear c21_o38_2 ac21_o38_2
  have c22_o38_3 : w22.cell? ⟨w9.heap.size, 3, none⟩ = some (.slice (some ⟨g033, 0, none⟩) n1 n1) := keepc hb' c21_o38_3
  clear c21_o38_3 ac21_o38_3
  have c22_o38_4 : w22.cell? ⟨w9.heap.size, 4, none⟩ = some (.slice (some ⟨g135, 0, none⟩) m1 m1) := keepc hb' c21_o38_4
  clear c21_o38_4 ac21_o38_4
  have c22_o38_5 : w22.cell? ⟨w9.heap.size, 5, none⟩ = some (.slice (some ⟨g237, 0, none⟩) k1 k1) := keepc hb' c21_o38_5
  clear c21_o38_5 ac21_o38_5
  have c22_o44_0 : w22.cell? ⟨w10.heap.size, 0, none⟩ = some (.int .i64 st2) := keepc hb' c21_o44_0
  clear c21_o44_0 ac21_o44_0
  have c22_o44_1 : w22.cell? ⟨w10.heap.size, 1, none⟩ = some (.int .i64 hd2) := keepc hb' c21_o44_1
  clear c21_o44_1 ac21_o44_1
  have c22_o44_2 : w22.cell? ⟨w10.heap.size, 2, none⟩ = some (.int .i64 at2) := keepc hb' c21_o44_2
  clear c21_o44_2 ac21_o44_2
  have c22_o44_3 : w22.cell? ⟨w10.heap.size, 3, none⟩ = some (.slice (some ⟨g039, 0, none⟩) n2 n2) := keepc hb' c21_o44_3
  clear c21_o44_3 ac21_o44_3
  have c22_o44_4 : w22.cell? ⟨w10.heap.size, 4, none⟩ = some (.slice (some ⟨g141, 0, none⟩) m2 m2) := keepc hb' c21_o44_4
  clear c21_o44_4 ac21_o44_4
  have c22_o44_5 : w22.cell? ⟨w10.heap.size, 5, none⟩ = some (.slice (some ⟨g243, 0, none⟩) k2 k2) := keepc hb' c21_o44_5
  clear c21_o44_5 ac21_o44_5
  have ac22_a0_0 := fun o => keepa o c22_a0_0
  have ac22_a0_1 := fun o => keepa o c22_a0_1
  have ac22_a0_2 := fun o => keepa o c22_a0_2
  have ac22_a1_0 := fun o => keepa o c22_a1_0
  have ac22_a1_1 := fun o => keepa o c22_a1_1
  have ac22_a1_2 := fun o => keepa o c22_a1_2
  have ac22_a1_3 := fun o => keepa o c22_a1_3
  have ac22_a1_4 := fun o => keepa o c22_a1_4
  have ac22_a1_5 := fun o => keepa o c22_a1_5
  have ac22_a2_0 := fun o => keepa o c22_a2_0
  have ac22_a2_1 := fun o => keepa o c22_a2_1
  have ac22_a2_2 := fun o => keepa o c22_a2_2
  have ac22_a2_3 := fun o => keepa o c22_a2_3
  have ac22_a2_4 := fun o => keepa o c22_a2_4
  have ac22_a2_5 := fun o => keepa o c22_a2_5
  have ac22_o32_0 := fun o => keepa o c22_o32_0
  have ac22_o32_1 := fun o => keepa o c22_o32_1
  have ac22_o32_2 := fun o => keepa o c22_o32_2
  have ac22_o38_0 := fun o => keepa o c22_o38_0
  have ac22_o38_1 := fun o => keepa o c22_o38_1
  have ac22_o38_2 := fun o => keepa o c22_o38_2
  have ac22_o38_3 := fun o => keepa o c22_o38_3
  have ac22_o38_4 := fun o => keepa o c22_o38_4
  have ac22_o38_5 := fun o => keepa o c22_o38_5
  have ac22_o44_0 := fun o => keepa o c22_o44_0
  have ac22_o44_1 := fun o => keepa o c22_o44_1
  have ac22_o44_2 := fun o => keepa o c22_o44_2
  have ac22_o44_3 := fun o => keepa o c22_o44_3
  have ac22_o44_4 := fun o => keepa o c22_o44_4
  have ac22_o44_5 := fun o => keepa o c22_o44_5
  have rP0 := P0.out.below hb'; clear P0; have P0 := Lib.hid rP0; clear rP0
  have rP1 := P1.out.below hb'; clear P1; have P1 := Lib.hid rP1; clear rP1
  have rP2 := P2.out.below hb'; clear P2; have P2 := Lib.hid rP2; clear rP2
  have rFo30 := Fo30.out.below hb'; clear Fo30; have Fo30 := Lib.hid rFo30; clear rFo30
  have rFo32 := Fo32.out.below hb'; clear Fo32; have Fo32 := Lib.hid rFo32; clear rFo32
  have rFo38 := Fo38.out.below hb'; clear Fo38; have Fo38 := Lib.hid rFo38; clear rFo38
  have rFo44 := Fo44.out.below hb'; clear Fo44; have Fo44 := Lib.hid rFo44; clear rFo44
  have rFo50 := Fo50.out.below hb'; clear Fo50; have Fo50 := Lib.hid rFo50; clear rFo50
  have rB := below_chain B.out (by omega) hb'; clear B; have B := Lib.hid rB; clear rB
  clear hb hb'
  go_wp2_with fail
  refine (markInt64S_c _ _ _ _ _ _ _ _ (by exact (Fo50.out)) (by omega) (by omega) (by omega)).mono ?_
  rintro e w23 ⟨rfl, q23, hk⟩
  have hk' : KeepR (w10.heap.size + 1) w11.heap.size w22 w23 := (by first | (with_reducible exact hk) | (with_reducible exact hk.up1) | (with_reducible exact hk.up1.up1))
  have z23 := hk'.size
  have c23_a0_0 : w23.cell? ⟨w.heap.size, 0, none⟩ = some (.int .i64 sy0) := hk'.cell (by simp <;> omega) c22_a0_0
  clear c22_a0_0 ac22_a0_0
  have c23_a0_1 : w23.cell? ⟨w.heap.size, 1, none⟩ = some (.int .i64 st0) := hk'.cell (by simp <;> omega) c22_a0_1
  clear c22_a0_1 ac22_a0_1
  have c23_a0_2 : w23.cell? ⟨w.heap.size, 2, none⟩ = some (.slice A0 n0 c0) := hk'.cell (by simp <;> omega) c22_a0_2
  clear c22_a0_2 ac22_a0_2
  have c23_a1_0 : w23.cell? ⟨(w.heap.size + 1), 0, none⟩ = some (.int .i64 st1) := hk'.cell (by simp <;> omega) c22_a1_0
  clear c22_a1_0 ac22_a1_0
  have c23_a1_1 : w23.cell? ⟨(w.heap.size + 1), 1, none⟩ = some (.int .i64 hd1) := hk'.cell (by simp <;> omega) c22_a1_1
  clear c22_a1_1 ac22_a1_1
  have c23_a1_2 : w23.cell? ⟨(w.heap.size + 1), 2, none⟩ = some (.int .i64 at1) := hk'.cell (by simp <;> omega) c22_a1_2
  clear c22_a1_2 ac22_a1_2
  have c23_a1_3 : w23.cell? ⟨(w.heap.size + 1), 3, none⟩ = some (.slice A1 n1 c1) := hk'.cell (by simp <;> omega) c22_a1_3
  clear c22_a1_3 ac22_a1_3
  have c23_a1_4 : w23.cell? ⟨(w.heap.size + 1), 4, none⟩ = some (.slice B1 m1 d1) := hk'.cell (by simp <;> omega) c22_a1_4
  clear c22_a1_4 ac22_a1_4
  have c23_a1_5 : w23.cell? ⟨(w.heap.size + 1), 5, none⟩ = some (.slice C1 k1 e1) := hk'.cell (by simp <;> omega) c22_a1_5
  clear c22_a1_5 ac22_a1_5
  have c23_a2_0 : w23.cell? ⟨(w.heap.size + 1 + 1), 0, none⟩ = some (.int .i64 st2) := hk'.cell (by simp <;> omega) c22_a2_0
  clear c22_a2_0 ac22_a2_0
  have c23_a2_1 : w23.cell? ⟨(w.heap.size + 1 + 1), 1, none⟩ = some (.int .i64 hd2) := hk'.cell (by simp <;> omega) c22_a2_1
  clear c22_a2_1 ac22_a2_1
  have c23_a2_2 : w23.cell? ⟨(w.heap.size + 1 + 1), 2, none⟩ = some (.int .i64 at2) := hk'.cell (by simp <;> omega) c22_a2_2
  clear c22_a2_2 ac22_a2_2
  have c23_a2_3 : w23.cell? ⟨(w.heap.size + 1 + 1), 3, none⟩ = some (.slice A2 n2 c2) := hk'.cell (by simp <;> omega) c22_a2_3
  clear c22_a2_3 ac22_a2_3
  have c23_a2_4 : w23.cell? ⟨(w.heap.size + 1 + 1), 4, none⟩ = some (.slice B2 m2 d2) := hk'.cell (by simp <;> omega) c22_a2_4
  clear c22_a2_4 ac22_a2_4
  have c23_a2_5 : w23.cell? ⟨(w.heap.size + 1 + 1), 5, none⟩ = some (.slice C2 k2 e2) := hk'.cell (by simp <;> omega) c22_a2_5
  clear c22_a2_5 ac22_a2_5
  have c23_o32_0 : w23.cell? ⟨w8.heap.size, 0, none⟩ = some (.int .i64 sy0) := hk'.cell (by simp <;> omega) c22_o32_0
  clear c22_o32_0 ac22_o32_0
  have c23_o32_1 : w23.cell? ⟨w8.heap.size, 1, none⟩ = some (.int .i64 st0) := hk'.cell (by simp <;> omega) c22_o32_1
  clear c22_o32_1 ac22_o32_1
  have c23_o32_2 : w23.cell? ⟨w8.heap.size, 2, none⟩ = some (.slice (some ⟨g031, 0, none⟩) n0 n0) := hk'.cell (by simp <;> omega) c22_o32_2
  clear c22_o32_2 ac22_o32_2
  have c23_o38_0 : w23.cell? ⟨w9.heap.size, 0, none⟩ = some (.int .i64 st1) := hk'.cell (by simp <;> omega) c22_o38_0
  clear c22_o38_0 ac22_o38_0
  have c23_o38_1 : w23.cell? ⟨w9.heap.size, 1, none⟩ = some (.int .i64 hd1) := hk'.cell (by simp <;> omega) c22_o38_1
  clear c22_o38_1 ac22_o38_1
  have c23_o38_2 : w23.cell? ⟨w9.heap.size, 2, none⟩ = some (.int .i64 at1) := hk'.cell (by simp <;> omega) c22_o38_2
  clear c22_o38_2 ac22_o38_2
  have c23_o38_3 : w23.cell? ⟨w9.heap.size, 3, none⟩ = some (.slice (some ⟨g033, 0, none⟩) n1 n1) := hk'.cell (by simp <;> omega) c22_o38_3
  clear c22_o38_3 ac22_o38_3
  have c23_o38_4 : w23.cell? ⟨w9.heap.size, 4, none⟩ = some (.slice (some ⟨g135, 0, none⟩) m1 m1) := hk'.cell (by simp <;> omega) c22_o38_4
  clear c22_o38_4 ac22_o38_4
  have c23_o38_5 : w23.cell? ⟨w9.heap.size, 5, none⟩ = some (.slice (some ⟨g237, 0, none⟩) k1 k1) := hk'.cell (by simp <;> omega) c22_o38_5
  clear c22_o38_5 ac22_o38_5
  have c23_o44_0 : w23.cell? ⟨w10.heap.size, 0, none⟩ = some (.int .i64 st2) := hk'.cell (by simp <;> omega) c22_o44_0
  clear c22_o44_0 ac22_o44_0
  have c23_o44_1 : w23.cell? ⟨w10.heap.size, 1, none⟩ = some (.int .i64 hd2) := hk'.cell (by simp <;> omega) c22_o44_1
  clear c22_o44_1 ac22_o44_1
  have c23_o44_2 : w23.cell? ⟨w10.heap.size, 2, none⟩ = some (.int .i64 at2) := hk'.cell (by simp <;> omega) c22_o44_2
  clear c22_o44_2 ac22_o44_2
  have c23_o44_3 : w23.cell? ⟨w10.heap.size, 3, none⟩ = some (.slice (some ⟨g039, 0, none⟩) n2 n2) := hk'.cell (by simp <;> omega) c22_o44_3
  clear c22_o44_3 ac22_o44_3
  have c23_o44_4 : w23.cell? ⟨w10.heap.size, 4, none⟩ = some (.slice (some ⟨g141, 0, none⟩) m2 m2) := hk'.cell (by simp <;> omega) c22_o44_4
  clear c22_o44_4 ac22_o44_4
  have c23_o44_5 : w23.cell? ⟨w10.heap.size, 5, none⟩ = some (.slice (some ⟨g243, 0, none⟩) k2 k2) := hk'.cell (by simp <;> omega) c22_o44_5
  clear c22_o44_5 ac22_o44_5
  have ac23_a0_0 := fun o => keepa o c23_a0_0
  have ac23_a0_1 := fun o => keepa o c23_a0_1
  have ac23_a0_2 := fun o => keepa o c23_a0_2
  have ac23_a1_0 := fun o => keepa o c23_a1_0
  have ac23_a1_1 := fun o => keepa o c23_a1_1
  have ac23_a1_2 := fun o => keepa o c23_a1_2
  have ac23_a1_3 := fun o => keepa o c23_a1_3
  have ac23_a1_4 := fun o => keepa o c23_a1_4
  have ac23_a1_5 := fun o => keepa o c23_a1_5
  have ac23_a2_0 := fun o => keepa o c23_a2_0
  have ac23_a2_1 := fun o => keepa o c23_a2_1
  have ac23_a2_2 := fun o => keepa o c23_a2_2
  have ac23_a2_3 := fun o => keepa o c23_a2_3
  have ac23_a2_4 := fun o => keepa o c23_a2_4
  have ac23_a2_5 := fun o => keepa o c23_a2_5
  have ac23_o32_0 := fun o => keepa o c23_o32_0
  have ac23_o32_1 := fun o => keepa o c23_o32_1
  have ac23_o32_2 := fun o => keepa o c23_o32_2
  have ac23_o38_0 := fun o => keepa o c23_o38_0
  have ac23_o38_1 := fun o => keepa o c23_o38_1
  have ac23_o38_2 := fun o => keepa o c23_o38_2
  have ac23_o38_3 := fun o => keepa o c23_o38_3
  have ac23_o38_4 := fun o => keepa o c23_o38_4
  have ac23_o38_5 := fun o => keepa o c23_o38_5
  have ac23_o44_0 := fun o => keepa o c23_o44_0
  have ac23_o44_1 := fun o => keepa o c23_o44_1
  have ac23_o44_2 := fun o => keepa o c23_o44_2
  have ac23_o44_3 := fun o => keepa o c23_o44_3
  have ac23_o44_4 := fun o => keepa o c23_o44_4
  have ac23_o44_5 := fun o => keepa o c23_o44_5
  have rP0 := P0.out.keep hk' (by omega); clear P0; have P0 := Lib.hid rP0; clear rP0
  have rP1 := P1.out.keep hk' (by omega); clear P1; have P1 := Lib.hid rP1; clear rP1
  have rP2 := P2.out.keep hk' (by omega); clear P2; have P2 := Lib.hid rP2; clear rP2
  have rFo30 := Fo30.out.keep hk' (by omega); clear Fo30; have Fo30 := Lib.hid rFo30; clear rFo30
  have rFo32 := Fo32.out.keep hk' (by omega); clear Fo32; have Fo32 := Lib.hid rFo32; clear rFo32
  have rFo38 := Fo38.out.keep hk' (by omega); clear Fo38; have Fo38 := Lib.hid rFo38; clear rFo38
  have rFo44 := Fo44.out.keep hk' (by omega); clear Fo44; have Fo44 := Lib.hid rFo44; clear rFo44
  have rFo50 := q23; clear Fo50; have Fo50 := Lib.hid rFo50; clear rFo50 q23
  have rB := B.out.trans (hk'.below (B := w.heap.size) (by omega) (by omega)); clear B; have B := Lib.hid rB; clear rB
  clear hk hk'
  go_wp2_with fail
  refine (heldInt64S_c _ _ _ _ _ (by exact (Fo50.out.rdI)) (by omega) (by omega) (by omega)).mono ?_
  rintro e w24 ⟨rfl, hb⟩
  have hb' : Below w23.heap.size w23 w24 := (by first | (with_reducible exact hb) | (with_reducible exact up1 hb) | (with_reducible exact up2 hb) | (with_reducible exact up3 hb) | (with_reducible exact up4 hb) | (with_reducible exact below_of_drew hb) | (with_reducible exact below_of_drew (up1 hb)))
  have z24 := hb'.size
  have c24_a0_0 : w24.cell? ⟨w.heap.size, 0, none⟩ = some (.int .i64 sy0) := keepc hb' c23_a0_0
  clear c23_a0_0 ac23_a0_0
  have c24_a0_1 : w24.cell? ⟨w.heap.size, 1, none⟩ = some (.int .i64 st0) := keepc hb' c23_a0_1
  clear c23_a0_1 ac23_a0_1
  have c24_a0_2 : w24.cell? ⟨w.heap.size, 2, none⟩ = some (.slice A0 n0 c0) := keepc hb' c23_a0_2
  clear c23_a0_2 ac23_a0_2
  have c24_a1_0 : w24.cell? ⟨(w.heap.size + 1), 0, none⟩ = some (.int .i64 st1) := keepc hb' c23_a1_0
  clear c23_a1_0 ac23_a1_0
  have c24_a1_1 : w24.cell? ⟨(w.heap.size + 1), 1, none⟩ = some (.int .i64 hd1) := keepc hb' c23_a1_1
  clear c23_a1_1 ac23_a1_1
  have c24_a1_2 : w24.cell? ⟨(w.heap.size + 1), 2, none⟩ = some (.int .i64 at1) := keepc hb' c23_a1_2
  clear c23_a1_2 ac23_a1_2
  have c24_a1_3 : w24.cell? ⟨(w.heap.size + 1), 3, none⟩ = some (.slice A1 n1 c1) := keepc hb' c23_a1_3
  clear c23_a1_3 ac23_a1_3
  have c24_a1_4 : w24.cell? ⟨(w.heap.size + 1), 4, none⟩ = some (.slice B1 m1 d1) := keepc hb' c23_a1_4
  clear c23_a1_4 ac23_a1_4
  have c24_a1_5 : w24.cell? ⟨(w.heap.size + 1), 5, none⟩ = some (.slice C1 k1 e1) := keepc hb' c23_a1_5
  clear c23_a1_5 ac23_a1_5
  have c24_a2_0 : w24.cell? ⟨(w.heap.size + 1 + 1), 0, none⟩ = some (.int .i64 st2) := keepc hb' c23_a2_0
  clear c23_a2_0 ac23_a2_0
  have c24_a2_1 : w24.cell? ⟨(w.heap.size + 1 + 1), 1, none⟩ = some (.int .i64 hd2) := keepc hb' c23_a2_1
  clear c23_a2_1 ac23_a2_1
  have c24_a2_2 : w24.cell? ⟨(w.heap.size + 1 + 1), 2, none⟩ = some (.int .i64 at2) := keepc hb' c23_a2_2
  clear c23_a2_2 ac23_a2_2
  have c24_a2_3 : w24.cell? ⟨(w.heap.size + 1 + 1), 3, none⟩ = some (.slice A2 n2 c2) := keepc hb' c23_a2_3
  clear c23_a2_3 ac23_a2_3
  have c24_a2_4 : w24.cell? ⟨(w.heap.size + 1 + 1), 4, none⟩ = some (.slice B2 m2 d2) := keepc hb' c23_a2_4
  clear c23_a2_4 ac23_a2_4
  have c24_a2_5 : w24.cell? ⟨(w.heap.size + 1 + 1), 5, none⟩ = some (.slice C2 k2 e2) := keepc hb' c23_a2_5
  clear c23_a2_5 ac23_a2_5
  have c24_o32_0 : w24.cell? ⟨w8.heap.size, 0, none⟩ = some (.int .i64 sy0) := keepc hb' c23_o32_0
  clear c23_o32_0 ac23_o32_0
  have c24_o32_1 : w24.cell? ⟨w8.heap.size, 1, none⟩ = some (.int .i64 st0) := keepc hb' c23_o32_1
  clear c23_o32_1 ac23_o32_1
  have c24_o32_2 : w24.cell? ⟨w8.heap.size, 2, none⟩ = some (.slice (some ⟨g031, 0, none⟩) n0 n0) := keepc hb' c23_o32_2
  clear c23_o32_2 ac23_o32_2
  have c24_o38_0 : w24.cell? ⟨w9.heap.size, 0, none⟩ = some (.int .i64 st1) := keepc hb' c23_o38_0
  clear c23_o38_0 ac23_o38_0
  have c24_o38_1 : w24.cell? ⟨w9.heap.size, 1, none⟩ = some (.int .i64 hd1) := keepc hb' c23_o38_1
  clear c23_o38_1 ac23_o38_1
  have c24_o38_2 : w24.cell? ⟨w9.heap.size, 2, none⟩ = some (.int .i64 at1) := keepc hb' c23_o38_2
  clear c23_o38_2 ac23_o38_2
  have c24_o38_3 : w24.cell? ⟨w9.heap.size, 3, none⟩ = some (.slice (some ⟨g033, 0, none⟩) n1 n1) := keepc hb' c23_o38_3
  clear c23_o38_3 ac23_o38_3
  have c24_o38_4 : w24.cell? ⟨w9.heap.size, 4, none⟩ = some (.slice (some ⟨g135, 0, none⟩) m1 m1) := keepc hb' c23_o38_4
  clear c23_o38_4 ac23_o38_4
  have c24_o38_5 : w24.cell? ⟨w9.heap.size, 5, none⟩ = some (.slice (some ⟨g237, 0, none⟩) k1 k1) := keepc hb' c23_o38_5
  clear c23_o38_5 ac23_o38_5
  have c24_o44_0 : w24.cell? ⟨w10.heap.size, 0, none⟩ = some (.int .i64 st2) := keepc hb' c23_o44_0
  clear c23_o44_0 ac23_o44_0
  have c24_o44_1 : w24.cell? ⟨w10.heap.size, 1, none⟩ = some (.int .i64 hd2) := keepc hb' c23_o44_1
  clear c23_o44_1 ac23_o44_1
  have c24_o44_2 : w24.cell? ⟨w10.heap.size, 2, none⟩ = some (.int .i64 at2) := keepc hb' c23_o44_2
  clear c23_o44_2 ac23_o44_2
  have c24_o44_3 : w24.cell? ⟨w10.heap.size, 3, none⟩ = some (.slice (some ⟨g039, 0, none⟩) n2 n2) := keepc hb' c23_o44_3
  clear c23_o44_3 ac23_o44_3
  have c24_o44_4 : w24.cell? ⟨w10.heap.size, 4, none⟩ = some (.slice (some ⟨g141, 0, none⟩) m2 m2) := keepc hb' c23_o44_4
  clear c23_o44_4 ac23_o44_4
  have c24_o44_5 : w24.cell? ⟨w10.heap.size, 5, none⟩ = some (.slice (some ⟨g243, 0, none⟩) k2 k2) := keepc hb' c23_o44_5
  clear c23_o44_5 ac23_o44_5
  have ac24_a0_0 := fun o => keepa o c24_a0_0
  have ac24_a0_1 := fun o => keepa o c24_a0_1
  have ac24_a0_2 := fun o => keepa o c24_a0_2
  have ac24_a1_0 := fun o => keepa o c24_a1_0
  have ac24_a1_1 := fun o => keepa o c24_a1_1
  have ac24_a1_2 := fun o => keepa o c24_a1_2
  have ac24_a1_3 := fun o => keepa o c24_a1_3
  have ac24_a1_4 := fun o => keepa o c24_a1_4
  have ac24_a1_5 := fun o => keepa o c24_a1_5
  have ac24_a2_0 := fun o => keepa o c24_a2_0
  have ac24_a2_1 := fun o => keepa o c24_a2_1
  have ac24_a2_2 := fun o => keepa o c24_a2_2
  have ac24_a2_3 := fun o => keepa o c24_a2_3
  have ac24_a2_4 := fun o => keepa o c24_a2_4
  have ac24_a2_5 := fun o => keepa o c24_a2_5
  have ac24_o32_0 := fun o => keepa o c24_o32_0
  have ac24_o32_1 := fun o => keepa o c24_o32_1
  have ac24_o32_2 := fun o => keepa o c24_o32_2
  have ac24_o38_0 := fun o => keepa o c24_o38_0
  have ac24_o38_1 := fun o => keepa o c24_o38_1
  have ac24_o38_2 := fun o => keepa o c24_o38_2
  have ac24_o38_3 := fun o => keepa o c24_o38_3
  have ac24_o38_4 := fun o => keepa o c24_o38_4
  have ac24_o38_5 := fun o => keepa o c24_o38_5
  have ac24_o44_0 := fun o => keepa o c24_o44_0
  have ac24_o44_1 := fun o => keepa o c24_o44_1
  have ac24_o44_2 := fun o => keepa o c24_o44_2
  have ac24_o44_3 := fun o => keepa o c24_o44_3
  have ac24_o44_4 := fun o => keepa o c24_o44_4
  have ac24_o44_5 := fun o => keepa o c24_o44_5
  have rP0 := P0.out.below hb'; clear P0; have P0 := Lib.hid rP0; clear rP0
  have rP1 := P1.out.below hb'; clear P1; have P1 := Lib.hid rP1; clear rP1
  have rP2 := P2.out.below hb'; clear P2; have P2 := Lib.hid rP2; clear rP2
  have rFo30 := Fo30.out.below hb'; clear Fo30; have Fo30 := Lib.hid rFo30; clear rFo30
  have rFo32 := Fo32.out.below hb'; clear Fo32; have Fo32 := Lib.hid rFo32; clear rFo32
  have rFo38 := Fo38.out.below hb'; clear Fo38; have Fo38 := Lib.hid rFo38; clear rFo38
  have rFo44 := Fo44.out.below hb'; clear Fo44; have Fo44 := Lib.hid rFo44; clear rFo44
  have rFo50 := Fo50.out.below hb'; clear Fo50; have Fo50 := Lib.hid rFo50; clear rFo50
  have rB := below_chain B.out (by omega) hb'; clear B; have B := Lib.hid rB; clear rB
  clear hb hb'
  go_wp2_with fail
  have fx_c24_a0_0 := Ext.cell c24_a0_0
  have fx_c24_a0_1 := Ext.cell c24_a0_1
  have fx_c24_a0_2 := Ext.cell c24_a0_2
  have fx_c24_a1_0 := Ext.cell c24_a1_0
  have fx_c24_a1_1 := Ext.cell c24_a1_1
  have fx_c24_a1_2 := Ext.cell c24_a1_2
  have fx_c24_a1_3 := Ext.cell c24_a1_3
  have fx_c24_a1_4 := Ext.cell c24_a1_4
  have fx_c24_a1_5 := Ext.cell c24_a1_5
  have fx_c24_a2_0 := Ext.cell c24_a2_0
  have fx_c24_a2_1 := Ext.cell c24_a2_1
  have fx_c24_a2_2 := Ext.cell c24_a2_2
  have fx_c24_a2_3 := Ext.cell c24_a2_3
  have fx_c24_a2_4 := Ext.cell c24_a2_4
  have fx_c24_a2_5 := Ext.cell c24_a2_5
  have fx_c24_o32_0 := Ext.cell c24_o32_0
  have fx_c24_o32_1 := Ext.cell c24_o32_1
  have fx_c24_o32_2 := Ext.cell c24_o32_2
  have fx_c24_o38_0 := Ext.cell c24_o38_0
  have fx_c24_o38_1 := Ext.cell c24_o38_1
  have fx_c24_o38_2 := Ext.cell c24_o38_2
  have fx_c24_o38_3 := Ext.cell c24_o38_3
  have fx_c24_o38_4 := Ext.cell c24_o38_4
  have fx_c24_o38_5 := Ext.cell c24_o38_5
  have fx_c24_o44_0 := Ext.cell c24_o44_0
  have fx_c24_o44_1 := Ext.cell c24_o44_1
  have fx_c24_o44_2 := Ext.cell c24_o44_2
  have fx_c24_o44_3 := Ext.cell c24_o44_3
  have fx_c24_o44_4 := Ext.cell c24_o44_4
  have fx_c24_o44_5 := Ext.cell c24_o44_5
  refine Mix.wp_region_mix [3, 1, 3, 1, 3, 1, 1, 0, 0, 0, 0, 0] (fun w' => ∃ x : Ext w24, w' = x.w) (by kernel_rfl) (by kernel_rfl) (InExt.drew _) ?_
  repeat (first | (refine Mix.wpMix_read (by rfl) ?_; go_big_quiet_step (fail); refine wpQuiet_nil ?_) | (refine Mix.wpMix_pure (by rfl) ?_; go_big_quiet_step (fail); refine wpQuiet_nil ?_))
  refine Mix.wpMix_chg (by rfl) (fun K hK => ?_)
  go_wp2_with fail
  refine (toMachine_c _ _ _ _ _ _ _ (by exact (P0.out.rd)) (by omega)).mono ?_
  rintro e w25 ⟨g065, rfl, q25, hb⟩
  have hb' : Below w24.heap.size w24 w25 := (by first | (with_reducible exact hb) | (with_reducible exact up1 hb) | (with_reducible exact up2 hb) | (with_reducible exact up3 hb) | (with_reducible exact up4 hb) | (with_reducible exact below_of_drew hb) | (with_reducible exact below_of_drew (up1 hb)))
  have z25 := hb'.size
  have c25_a0_0 : w25.cell? ⟨w.heap.size, 0, none⟩ = some (.int .i64 sy0) := keepc hb' c24_a0_0
  clear c24_a0_0 ac24_a0_0
  have c25_a0_1 : w25.cell? ⟨w.heap.size, 1, none⟩ = some (.int .i64 st0) := keepc hb' c24_a0_1
  clear c24_a0_1 ac24_a0_1
  have c25_a0_2 : w25.cell? ⟨w.heap.size, 2, none⟩ = some (.slice A0 n0 c0) := keepc hb' c24_a0_2
  clear c24_a0_2 ac24_a0_2
  have c25_a1_0 : w25.cell? ⟨(w.heap.size + 1), 0, none⟩ = some (.int .i64 st1) := keepc hb' c24_a1_0
  clear c24_a1_0 ac24_a1_0
  have c25_a1_1 : w25.cell? ⟨(w.heap.size + 1), 1, none⟩ = some (.int .i64 hd1) := keepc hb' c24_a1_1
  clear c24_a1_1 ac24_a1_1
  have c25_a1_2 : w25.cell? ⟨(w.heap.size + 1), 2, none⟩ = some (.int .i64 at1) := keepc hb' c24_a1_2
  clear c24_a1_2 ac24_a1_2
  have c25_a1_3 : w25.cell? ⟨(w.heap.size + 1), 3, none⟩ = some (.slice A1 n1 c1) := keepc hb' c24_a1_3
  clear c24_a1_3 ac24_a1_3
  have c25_a1_4 : w25.cell? ⟨(w.heap.size + 1), 4, none⟩ = some (.slice B1 m1 d1) := keepc hb' c24_a1_4
  clear c24_a1_4 ac24_a1_4
  have c25_a1_5 : w25.cell? ⟨(w.heap.size + 1), 5, none⟩ = some (.slice C1 k1 e1) := keepc hb' c24_a1_5
  clear c24_a1_5 ac24_a1_5
  have c25_a2_0 : w25.cell? ⟨(w.heap.size + 1 + 1), 0, none⟩ = some (.int .i64 st2) := keepc hb' c24_a2_0
  clear c24_a2_0 ac24_a2_0
  have c25_a2_1 : w25.cell? ⟨(w.heap.size + 1 + 1), 1, none⟩ = some (.int .i64 hd2) := keepc hb' c24_a2_1
  clear c24_a2_1 ac24_a2_1
  have c25_a2_2 : w25.cell? ⟨(w.heap.size + 1 + 1), 2, none⟩ = some (.int .i64 at2) := keepc hb' c24_a2_2
  clear c24_a2_2 ac24_a2_2
  have c25_a2_3 : w25.cell? ⟨(w.heap.size + 1 + 1), 3, none⟩ = some (.slice A2 n2 c2) := keepc hb' c24_a2_3
  clear c24_a2_3 ac24_a2_3
  have c25_a2_4 : w25.cell? ⟨(w.heap.size + 1 + 1), 4, none⟩ = some (.slice B2 m2 d2) := keepc hb' c24_a2_4
  clear c24_a2_4 ac24_a2_4
  have c25_a2_5 : w25.cell? ⟨(w.heap.size + 1 + 1), 5, none⟩ = some (.slice C2 k2 e2) := keepc hb' c24_a2_5
  clear c24_a2_5 ac24_a2_5
  have c25_o32_0 : w25.cell? ⟨w8.heap.size, 0, none⟩ = some (.int .i64 sy0) := keepc hb' c24_o32_0
  clear c24_o32_0 ac24_o32_0
  have c25_o32_1 : w25.cell? ⟨w8.heap.size, 1, none⟩ = some (.int .i64 st0) := keepc hb' c24_o32_1
  clear c24_o32_1 ac24_o32_1
  have c25_o32_2 : w25.cell? ⟨w8.heap.size, 2, none⟩ = some (.slice (some ⟨g031, 0, none⟩) n0 n0) := keepc hb' c24_o32_2
  clear c24_o32_2 ac24_o32_2
  have c25_o38_0 : w25.cell? ⟨w9.heap.size, 0, none⟩ = some (.int .i64 st1) := keepc hb' c24_o38_0
  clear c24_o38_0 ac24_o38_0
  have c25_o38_1 : w25.cell? ⟨w9.heap.size, 1, none⟩ = some (.int .i64 hd1) := keepc hb' c24_o38_1
  clear c24_o38_1 ac24_o38_1
  have c25_o38_2 : w25.cell? ⟨w9.heap.size, 2, none⟩ = some (.int .i64 at1) := keepc hb' c24_o38_2
  clear c24_o38_2 ac24_o38_2
  have c25_o38_3 : w25.cell? ⟨w9.heap.size, 3, none⟩ = some (.slice (some ⟨g033, 0, none⟩) n1 n1) := keepc hb' c24_o38_3
  clear c24_o38_3 ac24_o38_3
  have c25_o38_4 : w25.cell? ⟨w9.heap.size, 4, none⟩ = some (.slice (some ⟨g135, 0, none⟩) m1 m1) := keepc hb' c24_o38_4
  clear c24_o38_4 ac24_o38_4
  have c25_o38_5 : w25.cell? ⟨w9.heap.size, 5, none⟩ = some (.slice (some ⟨g237, 0, none⟩) k1 k1) := keepc hb' c24_o38_5
  clear c24_o38_5 ac24_o38_5
  have c25_o44_0 : w25.cell? ⟨w10.heap.size, 0, none⟩ = some (.int .i64 st2) := keepc hb' c24_o44_0
  clear c24_o44_0 ac24_o44_0
  have c25_o44_1 : w25.cell? ⟨w10.heap.size, 1, none⟩ = some (.int .i64 hd2) := keepc hb' c24_o44_1
  clear c24_o44_1 ac24_o44_1
  have c25_o44_2 : w25.cell? ⟨w10.heap.size, 2, none⟩ = some (.int .i64 at2) := keepc hb' c24_o44_2
  clear c24_o44_2 ac24_o44_2
  have c25_o44_3 : w25.cell? ⟨w10.heap.size, 3, none⟩ = some (.slice (some ⟨g039, 0, none⟩) n2 n2) := keepc hb' c24_o44_3
  clear c24_o44_3 ac24_o44_3
  have c25_o44_4 : w25.cell? ⟨w10.heap.size, 4, none⟩ = some (.slice (some ⟨g141, 0, none⟩) m2 m2) := keepc hb' c24_o44_4
  clear c24_o44_4 ac24_o44_4
  have c25_o44_5 : w25.cell? ⟨w10.heap.size, 5, none⟩ = some (.slice (some ⟨g243, 0, none⟩) k2 k2) := keepc hb' c24_o44_5
  clear c24_o44_5 ac24_o44_5
  have ac25_a0_0 := fun o => keepa o c25_a0_0
  have ac25_a0_1 := fun o => keepa o c25_a0_1
  have ac25_a0_2 := fun o => keepa o c25_a0_2
  have ac25_a1_0 := fun o => keepa o c25_a1_0
  have ac25_a1_1 := fun o => keepa o c25_a1_1
  have ac25_a1_2 := fun o => keepa o c25_a1_2
  have ac25_a1_3 := fun o => keepa o c25_a1_3
  have ac25_a1_4 := fun o => keepa o c25_a1_4
  have ac25_a1_5 := fun o => keepa o c25_a1_5
  have ac25_a2_0 := fun o => keepa o c25_a2_0
  have ac25_a2_1 := fun o => keepa o c25_a2_1
  have ac25_a2_2 := fun o => keepa o c25_a2_2
  have ac25_a2_3 := fun o => keepa o c25_a2_3
  have ac25_a2_4 := fun o => keepa o c25_a2_4
  have ac25_a2_5 := fun o => keepa o c25_a2_5
  have ac25_o32_0 := fun o => keepa o c25_o32_0
  have ac25_o32_1 := fun o => keepa o c25_o32_1
  have ac25_o32_2 := fun o => keepa o c25_o32_2
  have ac25_o38_0 := fun o => keepa o c25_o38_0
  have ac25_o38_1 := fun o => keepa o c25_o38_1
  have ac25_o38_2 := fun o => keepa o c25_o38_2
  have ac25_o38_3 := fun o => keepa o c25_o38_3
  have ac25_o38_4 := fun o => keepa o c25_o38_4
  have ac25_o38_5 := fun o => keepa o c25_o38_5
  have ac25_o44_0 := fun o => keepa o c25_o44_0
  have ac25_o44_1 := fun o => keepa o c25_o44_1
  have ac25_o44_2 := fun o => keepa o c25_o44_2
  have ac25_o44_3 := fun o => keepa o c25_o44_3
  have ac25_o44_4 := fun o => keepa o c25_o44_4
  have ac25_o44_5 := fun o => keepa o c25_o44_5
  have rP0 := P0.out.below hb'; clear P0; have P0 := Lib.hid rP0; clear rP0
  have rP1 := P1.out.below hb'; clear P1; have P1 := Lib.hid rP1; clear rP1
  have rP2 := P2.out.below hb'; clear P2; have P2 := Lib.hid rP2; clear rP2
  have rFo30 := Fo30.out.below hb'; clear Fo30; have Fo30 := Lib.hid rFo30; clear rFo30
  have rFo32 := Fo32.out.below hb'; clear Fo32; have Fo32 := Lib.hid rFo32; clear rFo32
  have rFo38 := Fo38.out.below hb'; clear Fo38; have Fo38 := Lib.hid rFo38; clear rFo38
  have rFo44 := Fo44.out.below hb'; clear Fo44; have Fo44 := Lib.hid rFo44; clear rFo44
  have rFo50 := Fo50.out.below hb'; clear Fo50; have Fo50 := Lib.hid rFo50; clear rFo50
  have rB := below_chain B.out (by omega) hb'; clear B; have B := Lib.hid rB; clear rB
  have Fo66 := Lib.hid q25; clear q25
  have em25 : Below w24.heap.size w24 w25 := hb'
  clear hb hb'
  go_wp2_with fail
  refine hK _ _ ⟨⟨_, em25⟩, rfl⟩ ?_
  clear hK K
  repeat (first | (refine Mix.wpMix_read (by rfl) ?_; go_big_quiet_step (fail); refine wpQuiet_nil ?_) | (refine Mix.wpMix_pure (by rfl) ?_; go_big_quiet_step (fail); refine wpQuiet_nil ?_))
  refine Mix.wpMix_chg (by rfl) (fun K hK => ?_)
  go_wp2_with fail
  refine (toFormula_c _ _ _ _ _ _ _ _ _ _ _ _ _ _ _ _ (by exact (P1.out.rd)) (by omega) (by omega) (by omega) hI0_a1 hI1_a1).mono ?_
  rintro e w26 ⟨g067, js068, g169, js170, g271, rfl, hx0_26, hx1_26, q26, hb⟩
  have hb' : Below w25.heap.size w25 w26 := (by first | (with_reducible exact hb) | (with_reducible exact up1 hb) | (with_reducible exact up2 hb) | (with_reducible exact up3 hb) | (with_reducible exact up4 hb) | (with_reducible exact below_of_drew hb) | (with_reducible exact below_of_drew (up1 hb)))
  have z26 := hb'.size
  have c26_a0_0 : w26.cell? ⟨w.heap.size, 0, none⟩ = some (.int .i64 sy0) := keepc hb' c25_a0_0
  clear c25_a0_0 ac25_a0_0
  have c26_a0_1 : w26.cell? ⟨w.heap.size, 1, none⟩ = some (.int .i64 st0) := keepc hb' c25_a0_1
  clear c25_a0_1 ac25_a0_1
  have c26_a0_2 : w26.cell? ⟨w.heap.size, 2, none⟩ = some (.slice A0 n0 c0) := keepc hb' c25_a0_2
  clear c25_a0_2 ac25_a0_2
  have c26_a1_0 : w26.cell? ⟨(w.heap.size + 1), 0, none⟩ = some (.int .i64 st1) := keepc hb' c25_a1_0
  clear c25_a1_0 ac25_a1_0
  have c26_a1_1 : w26.cell? ⟨(w.heap.size + 1), 1, none⟩ = some (.int .i64 hd1) := keepc hb' c25_a1_1
  clear c25_a1_1 ac25_a1_1
  have c26_a1_2 : w26.cell? ⟨(w.heap.size + 1), 2, none⟩ = some (.int .i64 at1) := keepc hb' c25_a1_2
  clear c25_a1_2 ac25_a1_2
  have c26_a1_3 : w26.cell? ⟨(w.heap.size + 1), 3, none⟩ = some (.slice A1 n1 c1) := keepc hb' c25_a1_3
  clear c25_a1_3 ac25_a1_3
  have c26_a1_4 : w26.cell? ⟨(w.heap.size + 1), 4, none⟩ = some (.slice B1 m1 d1) := keepc hb' c25_a1_4
  clear c25_a1_4 ac25_a1_4
  have c26_a1_5 : w26.cell? ⟨(w.heap.size + 1), 5, none⟩ = some (.slice C1 k1 e1) := keepc hb' c25_a1_5
  clear c25_a1_5 ac25_a1_5
  have c26_a2_0 : w26.cell? ⟨(w.heap.size + 1 + 1), 0, none⟩ = some (.int .i64 st2) := keepc hb' c25_a2_0
  clear c25_a2_0 ac25_a2_0
  have c26_a2_1 : w26.cell? ⟨(w.heap.size + 1 + 1), 1, none⟩ = some (.int .i64 hd2) := keepc hb' c25_a2_1
  clear c25_a2_1 ac25_a2_1
  have c26_a2_2 : w26.cell? ⟨(w.heap.size + 1 + 1), 2, none⟩ = some (.int .i64 at2) := keepc hb' c25_a2_2
  clear c25_a2_2 ac25_a2_2
  have c26_a2_3 : w26.cell? ⟨(w.heap.size + 1 + 1), 3, none⟩ = some (.slice A2 n2 c2) := keepc hb' c25_a2_3
  clear c25_a2_3 ac25_a2_3
  have c26_a2_4 : w26.cell? ⟨(w.heap.size + 1 + 1), 4, none⟩ = some (.slice B2 m2 d2) := keepc hb' c25_a2_4
  clear c25_a2_4 ac25_a2_4
  have c26_a2_5 : w26.cell? ⟨(w.heap.size + 1 + 1), 5, none⟩ = some (.slice C2 k2 e2) := keepc hb' c25_a2_5
  clear c25_a2_5 ac25_a2_5
  have c26_o32_0 : w26.cell? ⟨w8.heap.size, 0, none⟩ = some (.int .i64 sy0) := keepc hb' c25_o32_0
  clear c25_o32_0 ac25_o32_0
  have c26_o32_1 : w26.cell? ⟨w8.heap.size, 1, none⟩ = some (.int .i64 st0) := keepc hb' c25_o32_1
  clear c25_o32_1 ac25_o32_1
  have c26_o32_2 : w26.cell? ⟨w8.heap.size, 2, none⟩ = some (.slice (some ⟨g031, 0, none⟩) n0 n0) := keepc hb' c25_o32_2
  clear c25_o32_2 ac25_o32_2
  have c26_o38_0 : w26.cell? ⟨w9.heap.size, 0, none⟩ = some (.int .i64 st1) := keepc hb' c25_o38_0
  clear c25_o38_0 ac25_o38_0
  have c26_o38_1 : w26.cell? ⟨w9.heap.size, 1, none⟩ = some (.int .i64 hd1) := keepc hb' c25_o38_1
  clear c25_o38_1 ac25_o38_1
  have c26_o38_2 : w26.cell? ⟨w9.heap.size, 2, none⟩ = some (.int .i64 at1) := keepc hb' c25_o38_2
  clear c25_o38_2 ac25_o38_2
  have c26_o38_3 : w26.cell? ⟨w9.heap.size, 3, none⟩ = some (.slice (some ⟨g033, 0, none⟩) n1 n1) := keepc hb' c25_o38_3
  clear c25_o38_3 ac25_o38_3
  have c26_o38_4 : w26.cell? ⟨w9.heap.size, 4, none⟩ = some (.slice (some ⟨g135, 0, none⟩) m1 m1) := keepc hb' c25_o38_4
  clear c25_o38_4 ac25_o38_4
  have c26_o38_5 : w26.cell? ⟨w9.heap.size, 5, none⟩ = some (.slice (some ⟨g237, 0, none⟩) k1 k1) := keepc hb' c25_o38_5
  clear c25_o38_5 ac25_o38_5
  have c26_o44_0 : w26.cell? ⟨w10.heap.size, 0, none⟩ = some (.int .i64 st2) := keepc hb' c25_o44_0
  clear c25_o44_0 ac25_o44_0
  have c26_o44_1 : w26.cell? ⟨w10.heap.size, 1, none⟩ = some (.int .i64 hd2) := keepc hb' c25_o44_1
  clear c25_o44_1 ac25_o44_1
  have c26_o44_2 : w26.cell? ⟨w10.heap.size, 2, none⟩ = some (.int .i64 at2) := keepc hb' c25_o44_2
  clear c25_o44_2 ac25_o44_2
  have c26_o44_3 : w26.cell? ⟨w10.heap.size, 3, none⟩ = some (.slice (some ⟨g039, 0, none⟩) n2 n2) := keepc hb' c25_o44_3
  clear c25_o44_3 ac25_o44_3
  have c26_o44_4 : w26.cell? ⟨w10.heap.size, 4, none⟩ = some (.slice (some ⟨g141, 0, none⟩) m2 m2) := keepc hb' c25_o44_4
  clear c25_o44_4 ac25_o44_4
  have c26_o44_5 : w26.cell? ⟨w10.heap.size, 5, none⟩ = some (.slice (some ⟨g243, 0, none⟩) k2 k2) := keepc hb' c25_o44_5
  clear c25_o44_5 ac25_o44_5
  have ac26_a0_0 := fun o => keepa o c26_a0_0
  have ac26_a0_1 := fun o => keepa o c26_a0_1
  have ac26_a0_2 := fun o => keepa o c26_a0_2
  have ac26_a1_0 := fun o => keepa o c26_a1_0
  have ac26_a1_1 := fun o => keepa o c26_a1_1
  have ac26_a1_2 := fun o => keepa o c26_a1_2
  have ac26_a1_3 := fun o => keepa o c26_a1_3
  have ac26_a1_4 := fun o => keepa o c26_a1_4
  have ac26_a1_5 := fun o => keepa o c26_a1_5
  have ac26_a2_0 := fun o => keepa o c26_a2_0
  have ac26_a2_1 := fun o => keepa o c26_a2_1
  have ac26_a2_2 := fun o => keepa o c26_a2_2
  have ac26_a2_3 := fun o => keepa o c26_a2_3
  have ac26_a2_4 := fun o => keepa o c26_a2_4
  have ac26_a2_5 := fun o => keepa o c26_a2_5
  have ac26_o32_0 := fun o => keepa o c26_o32_0
  have ac26_o32_1 := fun o => keepa o c26_o32_1
  have ac26_o32_2 := fun o => keepa o c26_o32_2
  have ac26_o38_0 := fun o => keepa o c26_o38_0
  have ac26_o38_1 := fun o => keepa o c26_o38_1
  have ac26_o38_2 := fun o => keepa o c26_o38_2
  have ac26_o38_3 := fun o => keepa o c26_o38_3
  have ac26_o38_4 := fun o => keepa o c26_o38_4
  have ac26_o38_5 := fun o => keepa o c26_o38_5
  have ac26_o44_0 := fun o => keepa o c26_o44_0
  have ac26_o44_1 := fun o => keepa o c26_o44_1
  have ac26_o44_2 := fun o => keepa o c26_o44_2
  have ac26_o44_3 := fun o => keepa o c26_o44_3
  have ac26_o44_4 := fun o => keepa o c26_o44_4
  have ac26_o44_5 := fun o => keepa o c26_o44_5
  have rP0 := P0.out.below hb'; clear P0; have P0 := Lib.hid rP0; clear rP0
  have rP1 := P1.out.below hb'; clear P1; have P1 := Lib.hid rP1; clear rP1
  have rP2 := P2.out.below hb'; clear P2; have P2 := Lib.hid rP2; clear rP2
  have rFo30 := Fo30.out.below hb'; clear Fo30; have Fo30 := Lib.hid rFo30; clear rFo30
  have rFo32 := Fo32.out.below hb'; clear Fo32; have Fo32 := Lib.hid rFo32; clear rFo32
  have rFo38 := Fo38.out.below hb'; clear Fo38; have Fo38 := Lib.hid rFo38; clear rFo38
  have rFo44 := Fo44.out.below hb'; clear Fo44; have Fo44 := Lib.hid rFo44; clear rFo44
  have rFo50 := Fo50.out.below hb'; clear Fo50; have Fo50 := Lib.hid rFo50; clear rFo50
  have rFo66 := Fo66.out.below hb'; clear Fo66; have Fo66 := Lib.hid rFo66; clear rFo66
  have rB := below_chain B.out (by omega) hb'; clear B; have B := Lib.hid rB; clear rB
  have Fo72 := Lib.hid q26; clear q26
  have hm0_o72 := hx0_26
  have hI0_o72 : ∀ t ∈ js068, t.n ≤ 1000000000 := hi_of ((P1.out.rd).left.left) ((Fo72.out.rd).left.left) hx0_26 hI0_a1
  have hSm0_o72 : sumN js068 ≤ sumN its1 := sum_of ((P1.out.rd).left.left) ((Fo72.out.rd).left.left) hx0_26
  have hm1_o72 := hx1_26
  have hI1_o72 : ∀ t ∈ js170, t.n ≤ 1000000000 := hi_of ((P1.out.rd).left.right) ((Fo72.out.rd).left.right) hx1_26 hI1_a1
  have hSm1_o72 : sumN js170 ≤ sumN jts1 := sum_of ((P1.out.rd).left.right) ((Fo72.out.rd).left.right) hx1_26
  have em26 : Below w24.heap.size w24 w26 := below_chain em25 (by omega) hb'
  clear hb hb'
  go_wp2_with fail
  refine hK _ _ ⟨⟨_, em26⟩, rfl⟩ ?_
  clear hK K
  repeat (first | (refine Mix.wpMix_read (by rfl) ?_; go_big_quiet_step (fail); refine wpQuiet_nil ?_) | (refine Mix.wpMix_pure (by rfl) ?_; go_big_quiet_step (fail); refine wpQuiet_nil ?_))
  refine Mix.wpMix_chg (by rfl) (fun K hK => ?_)
  go_wp2_with fail
  refine (toFormula_c _ _ _ _ _ _ _ _ _ _ _ _ _ _ _ _ (by exact (P2.out.rd)) (by omega) (by omega) (by omega) hI0_a2 hI1_a2).mono ?_
  rintro e w27 ⟨g073, js074, g175, js176, g277, rfl, hx0_27, hx1_27, q27, hb⟩
  have hb' : Below w26.heap.size w26 w27 := (by first | (with_reducible exact hb) | (with_reducible exact up1 hb) | (with_reducible exact up2 hb) | (with_reducible exact up3 hb) | (with_reducible exact up4 hb) | (with_reducible exact below_of_drew hb) | (with_reducible exact below_of_drew (up1 hb)))
  have z27 := hb'.size
  have c27_a0_0 : w27.cell? ⟨w.heap.size, 0, none⟩ = some (.int .i64 sy0) := keepc hb' c26_a0_0
  clear c26_a0_0 ac26_a0_0
  have c27_a0_1 : w27.cell? ⟨w.heap.size, 1, none⟩ = some (.int .i64 st0) := keepc hb' c26_a0_1
  clear c26_a0_1 ac26_a0_1
  have c27_a0_2 : w27.cell? ⟨w.heap.size, 2, none⟩ = some (.slice A0 n0 c0) := keepc hb' c26_a0_2
  clear c26_a0_2 ac26_a0_2
  have c27_a1_0 : w27.cell? ⟨(w.heap.size + 1), 0, none⟩ = some (.int .i64 st1) := keepc hb' c26_a1_0
  clear c26_a1_0 ac26_a1_0
  have c27_a1_1 : w27.cell? ⟨(w.heap.size + 1), 1, none⟩ = some (.int .i64 hd1) := keepc hb' c26_a1_1
  clear c26_a1_1 ac26_a1_1
  have c27_a1_2 : w27.cell? ⟨(w.heap.size + 1), 2, none⟩ = some (.int .i64 at1) := keepc hb' c26_a1_2
  clear c26_a1_2 ac26_a1_2
  have c27_a1_3 : w27.cell? ⟨(w.heap.size + 1), 3, none⟩ = some (.slice A1 n1 c1) := keepc hb' c26_a1_3
  clear c26_a1_3 ac26_a1_3
  have c27_a1_4 : w27.cell? ⟨(w.heap.size + 1), 4, none⟩ = some (.slice B1 m1 d1) := keepc hb' c26_a1_4
  clear c26_a1_4 ac26_a1_4
  have c27_a1_5 : w27.cell? ⟨(w.heap.size + 1), 5, none⟩ = some (.slice C1 k1 e1) := keepc hb' c26_a1_5
  clear c26_a1_5 ac26_a1_5
  have c27_a2_0 : w27.cell? ⟨(w.heap.size + 1 + 1), 0, none⟩ = some (.int .i64 st2) := keepc hb' c26_a2_0
  clear c26_a2_0 ac26_a2_0
  have c27_a2_1 : w27.cell? ⟨(w.heap.size + 1 + 1), 1, none⟩ = some (.int .i64 hd2) := keepc hb' c26_a2_1
  clear c26_a2_1 ac26_a2_1
  have c27_a2_2 : w27.cell? ⟨(w.heap.size + 1 + 1), 2, none⟩ = some (.int .i64 at2) := keepc hb' c26_a2_2
  clear c26_a2_2 ac26_a2_2
  have c27_a2_3 : w27.cell? ⟨(w.heap.size + 1 + 1), 3, none⟩ = some (.slice A2 n2 c2) := keepc hb' c26_a2_3
  clear c26_a2_3 ac26_a2_3
  have c27_a2_4 : w27.cell? ⟨(w.heap.size + 1 + 1), 4, none⟩ = some (.slice B2 m2 d2) := keepc hb' c26_a2_4
  clear c26_a2_4 ac26_a2_4
  have c27_a2_5 : w27.cell? ⟨(w.heap.size + 1 + 1), 5, none⟩ = some (.slice C2 k2 e2) := keepc hb' c26_a2_5
  clear c26_a2_5 ac26_a2_5
  have c27_o32_0 : w27.cell? ⟨w8.heap.size, 0, none⟩ = some (.int .i64 sy0) := keepc hb' c26_o32_0
  clear c26_o32_0 ac26_o32_0
  have c27_o32_1 : w27.cell? ⟨w8.heap.size, 1, none⟩ = some (.int .i64 st0) := keepc hb' c26_o32_1
  clear c26_o32_1 ac26_o32_1
  have c27_o32_2 : w27.cell? ⟨w8.heap.size, 2, none⟩ = some (.slice (some ⟨g031, 0, none⟩) n0 n0) := keepc hb' c26_o32_2
  clear c26_o32_2 ac26_o32_2
  have c27_o38_0 : w27.cell? ⟨w9.heap.size, 0, none⟩ = some (.int .i64 st1) := keepc hb' c26_o38_0
  clear c26_o38_0 ac26_o38_0
  have c27_o38_1 : w27.cell? ⟨w9.heap.size, 1, none⟩ = some (.int .i64 hd1) := keepc hb' c26_o38_1
  clear c26_o38_1 ac26_o38_1
  have c27_o38_2 : w27.cell? ⟨w9.heap.size, 2, none⟩ = some (.int .i64 at1) := keepc hb' c26_o38_2
  clear c26_o38_2 ac26_o38_2
  have c27_o38_3 : w27.cell? ⟨w9.heap.size, 3, none⟩ = some (.slice (some ⟨g033, 0, none⟩) n1 n1) := keepc hb' c26_o38_3
  clear c26_o38_3 ac26_o38_3
  have c27_o38_4 : w27.cell? ⟨w9.heap.size, 4, none⟩ = some (.slice (some ⟨g135, 0, none⟩) m1 m1) := keepc hb' c26_o38_4
  clear c26_o38_4 ac26_o38_4
  have c27_o38_5 : w27.cell? ⟨w9.heap.size, 5, none⟩ = some (.slice (some ⟨g237, 0, none⟩) k1 k1) := keepc hb' c26_o38_5
  clear c26_o38_5 ac26_o38_5
  have c27_o44_0 : w27.cell? ⟨w10.heap.size, 0, none⟩ = some (.int .i64 st2) := keepc hb' c26_o44_0
  clear c26_o44_0 ac26_o44_0
  have c27_o44_1 : w27.cell? ⟨w10.heap.size, 1, none⟩ = some (.int .i64 hd2) := keepc hb' c26_o44_1
  clear c26_o44_1 ac26_o44_1
  have c27_o44_2 : w27.cell? ⟨w10.heap.size, 2, none⟩ = some (.int .i64 at2) := keepc hb' c26_o44_2
  clear c26_o44_2 ac26_o44_2
  have c27_o44_3 : w27.cell? ⟨w10.heap.size, 3, none⟩ = some (.slice (some ⟨g039, 0, none⟩) n2 n2) := keepc hb' c26_o44_3
  clear c26_o44_3 ac26_o44_3
  have c27_o44_4 : w27.cell? ⟨w10.heap.size, 4, none⟩ = some (.slice (some ⟨g141, 0, none⟩) m2 m2) := keepc hb' c26_o44_4
  clear c26_o44_4 ac26_o44_4
  have c27_o44_5 : w27.cell? ⟨w10.heap.size, 5, none⟩ = some (.slice (some ⟨g243, 0, none⟩) k2 k2) := keepc hb' c26_o44_5
  clear c26_o44_5 ac26_o44_5
  have ac27_a0_0 := fun o => keepa o c27_a0_0
  have ac27_a0_1 := fun o => keepa o c27_a0_1
  have ac27_a0_2 := fun o => keepa o c27_a0_2
  have ac27_a1_0 := fun o => keepa o c27_a1_0
  have ac27_a1_1 := fun o => keepa o c27_a1_1
  have ac27_a1_2 := fun o => keepa o c27_a1_2
  have ac27_a1_3 := fun o => keepa o c27_a1_3
  have ac27_a1_4 := fun o => keepa o c27_a1_4
  have ac27_a1_5 := fun o => keepa o c27_a1_5
  have ac27_a2_0 := fun o => keepa o c27_a2_0
  have ac27_a2_1 := fun o => keepa o c27_a2_1
  have ac27_a2_2 := fun o => keepa o c27_a2_2
  have ac27_a2_3 := fun o => keepa o c27_a2_3
  have ac27_a2_4 := fun o => keepa o c27_a2_4
  have ac27_a2_5 := fun o => keepa o c27_a2_5
  have ac27_o32_0 := fun o => keepa o c27_o32_0
  have ac27_o32_1 := fun o => keepa o c27_o32_1
  have ac27_o32_2 := fun o => keepa o c27_o32_2
  have ac27_o38_0 := fun o => keepa o c27_o38_0
  have ac27_o38_1 := fun o => keepa o c27_o38_1
  have ac27_o38_2 := fun o => keepa o c27_o38_2
  have ac27_o38_3 := fun o => keepa o c27_o38_3
  have ac27_o38_4 := fun o => keepa o c27_o38_4
  have ac27_o38_5 := fun o => keepa o c27_o38_5
  have ac27_o44_0 := fun o => keepa o c27_o44_0
  have ac27_o44_1 := fun o => keepa o c27_o44_1
  have ac27_o44_2 := fun o => keepa o c27_o44_2
  have ac27_o44_3 := fun o => keepa o c27_o44_3
  have ac27_o44_4 := fun o => keepa o c27_o44_4
  have ac27_o44_5 := fun o => keepa o c27_o44_5
  have rP0 := P0.out.below hb'; clear P0; have P0 := Lib.hid rP0; clear rP0
  have rP1 := P1.out.below hb'; clear P1; have P1 := Lib.hid rP1; clear rP1
  have rP2 := P2.out.below hb'; clear P2; have P2 := Lib.hid rP2; clear rP2
  have rFo30 := Fo30.out.below hb'; clear Fo30; have Fo30 := Lib.hid rFo30; clear rFo30
  have rFo32 := Fo32.out.below hb'; clear Fo32; have Fo32 := Lib.hid rFo32; clear rFo32
  have rFo38 := Fo38.out.below hb'; clear Fo38; have Fo38 := Lib.hid rFo38; clear rFo38
  have rFo44 := Fo44.out.below hb'; clear Fo44; have Fo44 := Lib.hid rFo44; clear rFo44
  have rFo50 := Fo50.out.below hb'; clear Fo50; have Fo50 := Lib.hid rFo50; clear rFo50
  have rFo66 := Fo66.out.below hb'; clear Fo66; have Fo66 := Lib.hid rFo66; clear rFo66
  have rFo72 := Fo72.out.below hb'; clear Fo72; have Fo72 := Lib.hid rFo72; clear rFo72
  have rB := below_chain B.out (by omega) hb'; clear B; have B := Lib.hid rB; clear rB
  have Fo78 := Lib.hid q27; clear q27
  have hm0_o78 := hx0_27
  have hI0_o78 : ∀ t ∈ js074, t.n ≤ 1000000000 := hi_of ((P2.out.rd).left.left) ((Fo78.out.rd).left.left) hx0_27 hI0_a2
  have hSm0_o78 : sumN js074 ≤ sumN its2 := sum_of ((P2.out.rd).left.left) ((Fo78.out.rd).left.left) hx0_27
  have hm1_o78 := hx1_27
  have hI1_o78 : ∀ t ∈ js176, t.n ≤ 1000000000 := hi_of ((P2.out.rd).left.right) ((Fo78.out.rd).left.right) hx1_27 hI1_a2
  have hSm1_o78 : sumN js176 ≤ sumN jts2 := sum_of ((P2.out.rd).left.right) ((Fo78.out.rd).left.right) hx1_27
  have em27 : Below w24.heap.size w24 w27 := below_chain em26 (by omega) hb'
  clear hb hb'
  go_wp2_with fail
  refine hK _ _ ⟨⟨_, em27⟩, rfl⟩ ?_
  clear hK K
  refine Mix.wpMix_chg (by rfl) (fun K hK => ?_)
  go_wp2_with fail
  refine (iGrowthOf_c _ _ _ _ _ _ _ _ _ _ _ _ _ _ _ _ _ _ _ _ _ _ _ _ _ _ _ _ _ _ _ _ _ _ _ _ _ (by exact (Fo66.out.rd)) (by exact (Fo72.out.rd)) (by exact (Fo78.out.rd)) (by omega) (by omega) (by omega) (by omega) (by omega) (by omega) (by omega) hI0_o72 hI1_o72 hI0_o78 hI1_o78 hm0_o72 hm1_o72 hm0_o78 hm1_o78 HRR.out).mono ?_
  rintro e w28 ⟨A79, n80, c81, rfl, q82, l83, hb⟩
  have hb' : Below w27.heap.size w27 w28 := (by first | (with_reducible exact hb) | (with_reducible exact up1 hb) | (with_reducible exact up2 hb) | (with_reducible exact up3 hb) | (with_reducible exact up4 hb) | (with_reducible exact below_of_drew hb) | (with_reducible exact below_of_drew (up1 hb)))
  have z28 := hb'.size
  have c28_a0_0 : w28.cell? ⟨w.heap.size, 0, none⟩ = some (.int .i64 sy0) := keepc hb' c27_a0_0
  clear c27_a0_0 ac27_a0_0
  have c28_a0_1 : w28.cell? ⟨w.heap.size, 1, none⟩ = some (.int .i64 st0) := keepc hb' c27_a0_1
  clear c27_a0_1 ac27_a0_1
  have c28_a0_2 : w28.cell? ⟨w.heap.size, 2, none⟩ = some (.slice A0 n0 c0) := keepc hb' c27_a0_2
  clear c27_a0_2 ac27_a0_2
  have c28_a1_0 : w28.cell? ⟨(w.heap.size + 1), 0, none⟩ = some (.int .i64 st1) := keepc hb' c27_a1_0
  clear c27_a1_0 ac27_a1_0
  have c28_a1_1 : w28.cell? ⟨(w.heap.size + 1), 1, none⟩ = some (.int .i64 hd1) := keepc hb' c27_a1_1
  clear c27_a1_1 ac27_a1_1
  have c28_a1_2 : w28.cell? ⟨(w.heap.size + 1), 2, none⟩ = some (.int .i64 at1) := keepc hb' c27_a1_2
  clear c27_a1_2 ac27_a1_2
  have c28_a1_3 : w28.cell? ⟨(w.heap.size + 1), 3, none⟩ = some (.slice A1 n1 c1) := keepc hb' c27_a1_3
  clear c27_a1_3 ac27_a1_3
  have c28_a1_4 : w28.cell? ⟨(w.heap.size + 1), 4, none⟩ = some (.slice B1 m1 d1) := keepc hb' c27_a1_4
  clear c27_a1_4 ac27_a1_4
  have c28_a1_5 : w28.cell? ⟨(w.heap.size + 1), 5, none⟩ = some (.slice C1 k1 e1) := keepc hb' c27_a1_5
  clear c27_a1_5 ac27_a1_5
  have c28_a2_0 : w28.cell? ⟨(w.heap.size + 1 + 1), 0, none⟩ = some (.int .i64 st2) := keepc hb' c27_a2_0
  clear c27_a2_0 ac27_a2_0
  have c28_a2_1 : w28.cell? ⟨(w.heap.size + 1 + 1), 1, none⟩ = some (.int .i64 hd2) := keepc hb' c27_a2_1
  clear c27_a2_1 ac27_a2_1
  have c28_a2_2 : w28.cell? ⟨(w.heap.size + 1 + 1), 2, none⟩ = some (.int .i64 at2) := keepc hb' c27_a2_2
  clear c27_a2_2 ac27_a2_2
  have c28_a2_3 : w28.cell? ⟨(w.heap.size + 1 + 1), 3, none⟩ = some (.slice A2 n2 c2) := keepc hb' c27_a2_3
  clear c27_a2_3 ac27_a2_3
  have c28_a2_4 : w28.cell? ⟨(w.heap.size + 1 + 1), 4, none⟩ = some (.slice B2 m2 d2) := keepc hb' c27_a2_4
  clear c27_a2_4 ac27_a2_4
  have c28_a2_5 : w28.cell? ⟨(w.heap.size + 1 + 1), 5, none⟩ = some (.slice C2 k2 e2) := keepc hb' c27_a2_5
  clear c27_a2_5 ac27_a2_5
  have c28_o32_0 : w28.cell? ⟨w8.heap.size, 0, none⟩ = some (.int .i64 sy0) := keepc hb' c27_o32_0
  clear c27_o32_0 ac27_o32_0
  have c28_o32_1 : w28.cell? ⟨w8.heap.size, 1, none⟩ = some (.int .i64 st0) := keepc hb' c27_o32_1
  clear c27_o32_1 ac27_o32_1
  have c28_o32_2 : w28.cell? ⟨w8.heap.size, 2, none⟩ = some (.slice (some ⟨g031, 0, none⟩) n0 n0) := keepc hb' c27_o32_2
  clear c27_o32_2 ac27_o32_2
  have c28_o38_0 : w28.cell? ⟨w9.heap.size, 0, none⟩ = some (.int .i64 st1) := keepc hb' c27_o38_0
  clear c27_o38_0 ac27_o38_0
  have c28_o38_1 : w28.cell? ⟨w9.heap.size, 1, none⟩ = some (.int .i64 hd1) := keepc hb' c27_o38_1
  clear c27_o38_1 ac27_o38_1
  have c28_o38_2 : w28.cell? ⟨w9.heap.size, 2, none⟩ = some (.int .i64 at1) := keepc hb' c27_o38_2
  clear c27_o38_2 ac27_o38_2
  have c28_o38_3 : w28.cell? ⟨w9.heap.size, 3, none⟩ = some (.slice (some ⟨g033, 0, none⟩) n1 n1) := keepc hb' c27_o38_3
  clear c27_o38_3 ac27_o38_3
  have c28_o38_4 : w28.cell? ⟨w9.heap.size, 4, none⟩ = some (.slice (some ⟨g135, 0, none⟩) m1 m1) := keepc hb' c27_o38_4
  clear c27_o38_4 ac27_o38_4
  have c28_o38_5 : w28.cell? ⟨w9.heap.size, 5, none⟩ = some (.slice (some ⟨g237, 0, none⟩) k1 k1) := keepc hb' c27_o38_5
  clear c27_o38_5 ac27_o38_5
  have c28_o44_0 : w28.cell? ⟨w10.heap.size, 0, none⟩ = some (.int .i64 st2) := keepc hb' c27_o44_0
  clear c27_o44_0 ac27_o44_0
  have c28_o44_1 : w28.cell? ⟨w10.heap.size, 1, none⟩ = some (.int .i64 hd2) := keepc hb' c27_o44_1
  clear c27_o44_1 ac27_o44_1
  have c28_o44_2 : w28.cell? ⟨w10.heap.size, 2, none⟩ = some (.int .i64 at2) := keepc hb' c27_o44_2
  clear c27_o44_2 ac27_o44_2
  have c28_o44_3 : w28.cell? ⟨w10.heap.size, 3, none⟩ = some (.slice (some ⟨g039, 0, none⟩) n2 n2) := keepc hb' c27_o44_3
  clear c27_o44_3 ac27_o44_3
  have c28_o44_4 : w28.cell? ⟨w10.heap.size, 4, none⟩ = some (.slice (some ⟨g141, 0, none⟩) m2 m2) := keepc hb' c27_o44_4
  clear c27_o44_4 ac27_o44_4
  have c28_o44_5 : w28.cell? ⟨w10.heap.size, 5, none⟩ = some (.slice (some ⟨g243, 0, none⟩) k2 k2) := keepc hb' c27_o44_5
  clear c27_o44_5 ac27_o44_5
  have ac28_a0_0 := fun o => keepa o c28_a0_0
  have ac28_a0_1 := fun o => keepa o c28_a0_1
  have ac28_a0_2 := fun o => keepa o c28_a0_2
  have ac28_a1_0 := fun o => keepa o c28_a1_0
  have ac28_a1_1 := fun o => keepa o c28_a1_1
  have ac28_a1_2 := fun o => keepa o c28_a1_2
  have ac28_a1_3 := fun o => keepa o c28_a1_3
  have ac28_a1_4 := fun o => keepa o c28_a1_4
  have ac28_a1_5 := fun o => keepa o c28_a1_5
  have ac28_a2_0 := fun o => keepa o c28_a2_0
  have ac28_a2_1 := fun o => keepa o c28_a2_1
  have ac28_a2_2 := fun o => keepa o c28_a2_2
  have ac28_a2_3 := fun o => keepa o c28_a2_3
  have ac28_a2_4 := fun o => keepa o c28_a2_4
  have ac28_a2_5 := fun o => keepa o c28_a2_5
  have ac28_o32_0 := fun o => keepa o c28_o32_0
  have ac28_o32_1 := fun o => keepa o c28_o32_1
  have ac28_o32_2 := fun o => keepa o c28_o32_2
  have ac28_o38_0 := fun o => keepa o c28_o38_0
  have ac28_o38_1 := fun o => keepa o c28_o38_1
  have ac28_o38_2 := fun o => keepa o c28_o38_2
  have ac28_o38_3 := fun o => keepa o c28_o38_3
  have ac28_o38_4 := fun o => keepa o c28_o38_4
  have ac28_o38_5 := fun o => keepa o c28_o38_5
  have ac28_o44_0 := fun o => keepa o c28_o44_0
  have ac28_o44_1 := fun o => keepa o c28_o44_1
  have ac28_o44_2 := fun o => keepa o c28_o44_2
  have ac28_o44_3 := fun o => keepa o c28_o44_3
  have ac28_o44_4 := fun o => keepa o c28_o44_4
  have ac28_o44_5 := fun o => keepa o c28_o44_5
  have rP0 := P0.out.below hb'; clear P0; have P0 := Lib.hid rP0; clear rP0
  have rP1 := P1.out.below hb'; clear P1; have P1 := Lib.hid rP1; clear rP1
  have rP2 := P2.out.below hb'; clear P2; have P2 := Lib.hid rP2; clear rP2
  have rFo30 := Fo30.out.below hb'; clear Fo30; have Fo30 := Lib.hid rFo30; clear rFo30
  have rFo32 := Fo32.out.below hb'; clear Fo32; have Fo32 := Lib.hid rFo32; clear rFo32
  have rFo38 := Fo38.out.below hb'; clear Fo38; have Fo38 := Lib.hid rFo38; clear rFo38
  have rFo44 := Fo44.out.below hb'; clear Fo44; have Fo44 := Lib.hid rFo44; clear rFo44
  have rFo50 := Fo50.out.below hb'; clear Fo50; have Fo50 := Lib.hid rFo50; clear rFo50
  have rFo66 := Fo66.out.below hb'; clear Fo66; have Fo66 := Lib.hid rFo66; clear rFo66
  have rFo72 := Fo72.out.below hb'; clear Fo72; have Fo72 := Lib.hid rFo72; clear rFo72
  have rFo78 := Fo78.out.below hb'; clear Fo78; have Fo78 := Lib.hid rFo78; clear rFo78
  have rB := below_chain B.out (by omega) hb'; clear B; have B := Lib.hid rB; clear rB
  have Fo84 := Lib.hid q82; clear q82
  have em28 : Below w24.heap.size w24 w28 := below_chain em27 (by omega) hb'
  clear hb hb'
  go_wp2_with fail
  refine hK _ _ ⟨⟨_, em28⟩, rfl⟩ ?_
  clear hK K
  repeat (first | (refine Mix.wpMix_read (by rfl) ?_; go_big_quiet_step (fail); refine wpQuiet_nil ?_) | (refine Mix.wpMix_pure (by rfl) ?_; go_big_quiet_step (fail); refine wpQuiet_nil ?_))
  (refine Mix.wpMix_nil ?_; try simp only [Exit.then])
  clear fx_c24_a0_0
  clear fx_c24_a0_1
  clear fx_c24_a0_2
  clear fx_c24_a1_0
  clear fx_c24_a1_1
  clear fx_c24_a1_2
  clear fx_c24_a1_3
  clear fx_c24_a1_4
  clear fx_c24_a1_5
  clear fx_c24_a2_0
  clear fx_c24_a2_1
  clear fx_c24_a2_2
  clear fx_c24_a2_3
  clear fx_c24_a2_4
  clear fx_c24_a2_5
  clear fx_c24_o32_0
  clear fx_c24_o32_1
  clear fx_c24_o32_2
  clear fx_c24_o38_0
  clear fx_c24_o38_1
  clear fx_c24_o38_2
  clear fx_c24_o38_3
  clear fx_c24_o38_4
  clear fx_c24_o38_5
  clear fx_c24_o44_0
  clear fx_c24_o44_1
  clear fx_c24_o44_2
  clear fx_c24_o44_3
  clear fx_c24_o44_4
  clear fx_c24_o44_5
  clear Fo66
  clear Fo72
  clear Fo78
  go_wp2_with fail
  refine (eqInt64S_t _ _ _ _ _ _ _ _ (by exact (Fo84.out.rdI)) (by exact (Fo30.out.rdI)) (by omega)).mono ?_
  rintro e w29 ⟨rfl, hb⟩
  have hb' : Below w28.heap.size w28 w29 := (by first | (with_reducible exact hb) | (with_reducible exact up1 hb) | (with_reducible exact up2 hb) | (with_reducible exact up3 hb) | (with_reducible exact up4 hb) | (with_reducible exact below_of_drew hb) | (with_reducible exact below_of_drew (up1 hb)))
  have z29 := hb'.size
  have c29_a0_0 : w29.cell? ⟨w.heap.size, 0, none⟩ = some (.int .i64 sy0) := keepc hb' c28_a0_0
  clear c28_a0_0 ac28_a0_0
  have c29_a0_1 : w29.cell? ⟨w.heap.size, 1, none⟩ = some (.int .i64 st0) := keepc hb' c28_a0_1
  clear c28_a0_1 ac28_a0_1
  have c29_a0_2 : w29.cell? ⟨w.heap.size, 2, none⟩ = some (.slice A0 n0 c0) := keepc hb' c28_a0_2
  clear c28_a0_2 ac28_a0_2
  have c29_a1_0 : w29.cell? ⟨(w.heap.size + 1), 0, none⟩ = some (.int .i64 st1) := keepc hb' c28_a1_0
  clear c28_a1_0 ac28_a1_0
  have c29_a1_1 : w29.cell? ⟨(w.heap.size + 1), 1, none⟩ = some (.int .i64 hd1) := keepc hb' c28_a1_1
  clear c28_a1_1 ac28_a1_1
  have c29_a1_2 : w29.cell? ⟨(w.heap.size + 1), 2, none⟩ = some (.int .i64 at1) := keepc hb' c28_a1_2
  clear c28_a1_2 ac28_a1_2
  have c29_a1_3 : w29.cell? ⟨(w.heap.size + 1), 3, none⟩ = some (.slice A1 n1 c1) := keepc hb' c28_a1_3
  clear c28_a1_3 ac28_a1_3
  have c29_a1_4 : w29.cell? ⟨(w.heap.size + 1), 4, none⟩ = some (.slice B1 m1 d1) := keepc hb' c28_a1_4
  clear c28_a1_4 ac28_a1_4
  have c29_a1_5 : w29.cell? ⟨(w.heap.size + 1), 5, none⟩ = some (.slice C1 k1 e1) := keepc hb' c28_a1_5
  clear c28_a1_5 ac28_a1_5
  have c29_a2_0 : w29.cell? ⟨(w.heap.size + 1 + 1), 0, none⟩ = some (.int .i64 st2) := keepc hb' c28_a2_0
  clear c28_a2_0 ac28_a2_0
  have c29_a2_1 : w29.cell? ⟨(w.heap.size + 1 + 1), 1, none⟩ = some (.int .i64 hd2) := keepc hb' c28_a2_1
  clear c28_a2_1 ac28_a2_1
  have c29_a2_2 : w29.cell? ⟨(w.heap.size + 1 + 1), 2, none⟩ = some (.int .i64 at2) := keepc hb' c28_a2_2
  clear c28_a2_2 ac28_a2_2
  have c29_a2_3 : w29.cell? ⟨(w.heap.size + 1 + 1), 3, none⟩ = some (.slice A2 n2 c2) := keepc hb' c28_a2_3
  clear c28_a2_3 ac28_a2_3
  have c29_a2_4 : w29.cell? ⟨(w.heap.size + 1 + 1), 4, none⟩ = some (.slice B2 m2 d2) := keepc hb' c28_a2_4
  clear c28_a2_4 ac28_a2_4
  have c29_a2_5 : w29.cell? ⟨(w.heap.size + 1 + 1), 5, none⟩ = some (.slice C2 k2 e2) := keepc hb' c28_a2_5
  clear c28_a2_5 ac28_a2_5
  have c29_o32_0 : w29.cell? ⟨w8.heap.size, 0, none⟩ = some (.int .i64 sy0) := keepc hb' c28_o32_0
  clear c28_o32_0 ac28_o32_0
  have c29_o32_1 : w29.cell? ⟨w8.heap.size, 1, none⟩ = some (.int .i64 st0) := keepc hb' c28_o32_1
  clear c28_o32_1 ac28_o32_1
  have c29_o32_2 : w29.cell? ⟨w8.heap.size, 2, none⟩ = some (.slice (some ⟨g031, 0, none⟩) n0 n0) := keepc hb' c28_o32_2
  clear c28_o32_2 ac28_o32_2
  have c29_o38_0 : w29.cell? ⟨w9.heap.size, 0, none⟩ = some (.int .i64 st1) := keepc hb' c28_o38_0
  clear c28_o38_0 ac28_o38_0
  have c29_o38_1 : w29.cell? ⟨w9.heap.size, 1, none⟩ = some (.int .i64 hd1) := keepc hb' c28_o38_1
  clear c28_o38_1 ac28_o38_1
  have c29_o38_2 : w29.cell? ⟨w9.heap.size, 2, none⟩ = some (.int .i64 at1) := keepc hb' c28_o38_2
  clear c28_o38_2 ac28_o38_2
  have c29_o38_3 : w29.cell? ⟨w9.heap.size, 3, none⟩ = some (.slice (some ⟨g033, 0, none⟩) n1 n1) := keepc hb' c28_o38_3
  clear c28_o38_3 ac28_o38_3
  have c29_o38_4 : w29.cell? ⟨w9.heap.size, 4, none⟩ = some (.slice (some ⟨g135, 0, none⟩) m1 m1) := keepc hb' c28_o38_4
  clear c28_o38_4 ac28_o38_4
  have c29_o38_5 : w29.cell? ⟨w9.heap.size, 5, none⟩ = some (.slice (some ⟨g237, 0, none⟩) k1 k1) := keepc hb' c28_o38_5
  clear c28_o38_5 ac28_o38_5
  have c29_o44_0 : w29.cell? ⟨w10.heap.size, 0, none⟩ = some (.int .i64 st2) := keepc hb' c28_o44_0
  clear c28_o44_0 ac28_o44_0
  have c29_o44_1 : w29.cell? ⟨w10.heap.size, 1, none⟩ = some (.int .i64 hd2) := keepc hb' c28_o44_1
  clear c28_o44_1 ac28_o44_1
  have c29_o44_2 : w29.cell? ⟨w10.heap.size, 2, none⟩ = some (.int .i64 at2) := keepc hb' c28_o44_2
  clear c28_o44_2 ac28_o44_2
  have c29_o44_3 : w29.cell? ⟨w10.heap.size, 3, none⟩ = some (.slice (some ⟨g039, 0, none⟩) n2 n2) := keepc hb' c28_o44_3
  clear c28_o44_3 ac28_o44_3
  have c29_o44_4 : w29.cell? ⟨w10.heap.size, 4, none⟩ = some (.slice (some ⟨g141, 0, none⟩) m2 m2) := keepc hb' c28_o44_4
  clear c28_o44_4 ac28_o44_4
  have c29_o44_5 : w29.cell? ⟨w10.heap.size, 5, none⟩ = some (.slice (some ⟨g243, 0, none⟩) k2 k2) := keepc hb' c28_o44_5
  clear c28_o44_5 ac28_o44_5
  have ac29_a0_0 := fun o => keepa o c29_a0_0
  have ac29_a0_1 := fun o => keepa o c29_a0_1
  have ac29_a0_2 := fun o => keepa o c29_a0_2
  have ac29_a1_0 := fun o => keepa o c29_a1_0
  have ac29_a1_1 := fun o => keepa o c29_a1_1
  have ac29_a1_2 := fun o => keepa o c29_a1_2
  have ac29_a1_3 := fun o => keepa o c29_a1_3
  have ac29_a1_4 := fun o => keepa o c29_a1_4
  have ac29_a1_5 := fun o => keepa o c29_a1_5
  have ac29_a2_0 := fun o => keepa o c29_a2_0
  have ac29_a2_1 := fun o => keepa o c29_a2_1
  have ac29_a2_2 := fun o => keepa o c29_a2_2
  have ac29_a2_3 := fun o => keepa o c29_a2_3
  have ac29_a2_4 := fun o => keepa o c29_a2_4
  have ac29_a2_5 := fun o => keepa o c29_a2_5
  have ac29_o32_0 := fun o => keepa o c29_o32_0
  have ac29_o32_1 := fun o => keepa o c29_o32_1
  have ac29_o32_2 := fun o => keepa o c29_o32_2
  have ac29_o38_0 := fun o => keepa o c29_o38_0
  have ac29_o38_1 := fun o => keepa o c29_o38_1
  have ac29_o38_2 := fun o => keepa o c29_o38_2
  have ac29_o38_3 := fun o => keepa o c29_o38_3
  have ac29_o38_4 := fun o => keepa o c29_o38_4
  have ac29_o38_5 := fun o => keepa o c29_o38_5
  have ac29_o44_0 := fun o => keepa o c29_o44_0
  have ac29_o44_1 := fun o => keepa o c29_o44_1
  have ac29_o44_2 := fun o => keepa o c29_o44_2
  have ac29_o44_3 := fun o => keepa o c29_o44_3
  have ac29_o44_4 := fun o => keepa o c29_o44_4
  have ac29_o44_5 := fun o => keepa o c29_o44_5
  have rP0 := P0.out.below hb'; clear P0; have P0 := Lib.hid rP0; clear rP0
  have rP1 := P1.out.below hb'; clear P1; have P1 := Lib.hid rP1; clear rP1
  have rP2 := P2.out.below hb'; clear P2; have P2 := Lib.hid rP2; clear rP2
  have rFo30 := Fo30.out.below hb'; clear Fo30; have Fo30 := Lib.hid rFo30; clear rFo30
  have rFo32 := Fo32.out.below hb'; clear Fo32; have Fo32 := Lib.hid rFo32; clear rFo32
  have rFo38 := Fo38.out.below hb'; clear Fo38; have Fo38 := Lib.hid rFo38; clear rFo38
  have rFo44 := Fo44.out.below hb'; clear Fo44; have Fo44 := Lib.hid rFo44; clear rFo44
  have rFo50 := Fo50.out.below hb'; clear Fo50; have Fo50 := Lib.hid rFo50; clear rFo50
  have rFo84 := Fo84.out.below hb'; clear Fo84; have Fo84 := Lib.hid rFo84; clear rFo84
  have rB := below_chain B.out (by omega) hb'; clear B; have B := Lib.hid rB; clear rB
  clear hb hb'
  go_wp2_with fail
  refine (heldInt64S_c _ _ _ _ _ (by exact (Fo50.out.rdI)) (by omega) (by omega) (by omega)).mono ?_
  rintro e w30 ⟨rfl, hb⟩
  have hb' : Below w29.heap.size w29 w30 := (by first | (with_reducible exact hb) | (with_reducible exact up1 hb) | (with_reducible exact up2 hb) | (with_reducible exact up3 hb) | (with_reducible exact up4 hb) | (with_reducible exact below_of_drew hb) | (with_reducible exact below_of_drew (up1 hb)))
  have z30 := hb'.size
  have c30_a0_0 : w30.cell? ⟨w.heap.size, 0, none⟩ = some (.int .i64 sy0) := keepc hb' c29_a0_0
  clear c29_a0_0 ac29_a0_0
  have c30_a0_1 : w30.cell? ⟨w.heap.size, 1, none⟩ = some (.int .i64 st0) := keepc hb' c29_a0_1
  clear c29_a0_1 ac29_a0_1
  have c30_a0_2 : w30.cell? ⟨w.heap.size, 2, none⟩ = some (.slice A0 n0 c0) := keepc hb' c29_a0_2
  clear c29_a0_2 ac29_a0_2
  have c30_a1_0 : w30.cell? ⟨(w.heap.size + 1), 0, none⟩ = some (.int .i64 st1) := keepc hb' c29_a1_0
  clear c29_a1_0 ac29_a1_0
  have c30_a1_1 : w30.cell? ⟨(w.heap.size + 1), 1, none⟩ = some (.int .i64 hd1) := keepc hb' c29_a1_1
  clear c29_a1_1 ac29_a1_1
  have c30_a1_2 : w30.cell? ⟨(w.heap.size + 1), 2, none⟩ = some (.int .i64 at1) := keepc hb' c29_a1_2
  clear c29_a1_2 ac29_a1_2
  have c30_a1_3 : w30.cell? ⟨(w.heap.size + 1), 3, none⟩ = some (.slice A1 n1 c1) := keepc hb' c29_a1_3
  clear c29_a1_3 ac29_a1_3
  have c30_a1_4 : w30.cell? ⟨(w.heap.size + 1), 4, none⟩ = some (.slice B1 m1 d1) := keepc hb' c29_a1_4
  clear c29_a1_4 ac29_a1_4
  have c30_a1_5 : w30.cell? ⟨(w.heap.size + 1), 5, none⟩ = some (.slice C1 k1 e1) := keepc hb' c29_a1_5
  clear c29_a1_5 ac29_a1_5
  have c30_a2_0 : w30.cell? ⟨(w.heap.size + 1 + 1), 0, none⟩ = some (.int .i64 st2) := keepc hb' c29_a2_0
  clear c29_a2_0 ac29_a2_0
  have c30_a2_1 : w30.cell? ⟨(w.heap.size + 1 + 1), 1, none⟩ = some (.int .i64 hd2) := keepc hb' c29_a2_1
  clear c29_a2_1 ac29_a2_1
  have c30_a2_2 : w30.cell? ⟨(w.heap.size + 1 + 1), 2, none⟩ = some (.int .i64 at2) := keepc hb' c29_a2_2
  clear c29_a2_2 ac29_a2_2
  have c30_a2_3 : w30.cell? ⟨(w.heap.size + 1 + 1), 3, none⟩ = some (.slice A2 n2 c2) := keepc hb' c29_a2_3
  clear c29_a2_3 ac29_a2_3
  have c30_a2_4 : w30.cell? ⟨(w.heap.size + 1 + 1), 4, none⟩ = some (.slice B2 m2 d2) := keepc hb' c29_a2_4
  clear c29_a2_4 ac29_a2_4
  have c30_a2_5 : w30.cell? ⟨(w.heap.size + 1 + 1), 5, none⟩ = some (.slice C2 k2 e2) := keepc hb' c29_a2_5
  clear c29_a2_5 ac29_a2_5
  have c30_o32_0 : w30.cell? ⟨w8.heap.size, 0, none⟩ = some (.int .i64 sy0) := keepc hb' c29_o32_0
  clear c29_o32_0 ac29_o32_0
  have c30_o32_1 : w30.cell? ⟨w8.heap.size, 1, none⟩ = some (.int .i64 st0) := keepc hb' c29_o32_1
  clear c29_o32_1 ac29_o32_1
  have c30_o32_2 : w30.cell? ⟨w8.heap.size, 2, none⟩ = some (.slice (some ⟨g031, 0, none⟩) n0 n0) := keepc hb' c29_o32_2
  clear c29_o32_2 ac29_o32_2
  have c30_o38_0 : w30.cell? ⟨w9.heap.size, 0, none⟩ = some (.int .i64 st1) := keepc hb' c29_o38_0
  clear c29_o38_0 ac29_o38_0
  have c30_o38_1 : w30.cell? ⟨w9.heap.size, 1, none⟩ = some (.int .i64 hd1) := keepc hb' c29_o38_1
  clear c29_o38_1 ac29_o38_1
  have c30_o38_2 : w30.cell? ⟨w9.heap.size, 2, none⟩ = some (.int .i64 at1) := keepc hb' c29_o38_2
  clear c29_o38_2 ac29_o38_2
  have c30_o38_3 : w30.cell? ⟨w9.heap.size, 3, none⟩ = some (.slice (some ⟨g033, 0, none⟩) n1 n1) := keepc hb' c29_o38_3
  clear c29_o38_3 ac29_o38_3
  have c30_o38_4 : w30.cell? ⟨w9.heap.size, 4, none⟩ = some (.slice (some ⟨g135, 0, none⟩) m1 m1) := keepc hb' c29_o38_4
  clear c29_o38_4 ac29_o38_4
  have c30_o38_5 : w30.cell? ⟨w9.heap.size, 5, none⟩ = some (.slice (some ⟨g237, 0, none⟩) k1 k1) := keepc hb' c29_o38_5
  clear c29_o38_5 ac29_o38_5
  have c30_o44_0 : w30.cell? ⟨w10.heap.size, 0, none⟩ = some (.int .i64 st2) := keepc hb' c29_o44_0
  clear c29_o44_0 ac29_o44_0
  have c30_o44_1 : w30.cell? ⟨w10.heap.size, 1, none⟩ = some (.int .i64 hd2) := keepc hb' c29_o44_1
  clear c29_o44_1 ac29_o44_1
  have c30_o44_2 : w30.cell? ⟨w10.heap.size, 2, none⟩ = some (.int .i64 at2) := keepc hb' c29_o44_2
  clear c29_o44_2 ac29_o44_2
  have c30_o44_3 : w30.cell? ⟨w10.heap.size, 3, none⟩ = some (.slice (some ⟨g039, 0, none⟩) n2 n2) := keepc hb' c29_o44_3
  clear c29_o44_3 ac29_o44_3
  have c30_o44_4 : w30.cell? ⟨w10.heap.size, 4, none⟩ = some (.slice (some ⟨g141, 0, none⟩) m2 m2) := keepc hb' c29_o44_4
  clear c29_o44_4 ac29_o44_4
  have c30_o44_5 : w30.cell? ⟨w10.heap.size, 5, none⟩ = some (.slice (some ⟨g243, 0, none⟩) k2 k2) := keepc hb' c29_o44_5
  clear c29_o44_5 ac29_o44_5
  have ac30_a0_0 := fun o => keepa o c30_a0_0
  have ac30_a0_1 := fun o => keepa o c30_a0_1
  have ac30_a0_2 := fun o => keepa o c30_a0_2
  have ac30_a1_0 := fun o => keepa o c30_a1_0
  have ac30_a1_1 := fun o => keepa o c30_a1_1
  have ac30_a1_2 := fun o => keepa o c30_a1_2
  have ac30_a1_3 := fun o => keepa o c30_a1_3
  have ac30_a1_4 := fun o => keepa o c30_a1_4
  have ac30_a1_5 := fun o => keepa o c30_a1_5
  have ac30_a2_0 := fun o => keepa o c30_a2_0
  have ac30_a2_1 := fun o => keepa o c30_a2_1
  have ac30_a2_2 := fun o => keepa o c30_a2_2
  have ac30_a2_3 := fun o => keepa o c30_a2_3
  have ac30_a2_4 := fun o => keepa o c30_a2_4
  have ac30_a2_5 := fun o => keepa o c30_a2_5
  have ac30_o32_0 := fun o => keepa o c30_o32_0
  have ac30_o32_1 := fun o => keepa o c30_o32_1
  have ac30_o32_2 := fun o => keepa o c30_o32_2
  have ac30_o38_0 := fun o => keepa o c30_o38_0
  have ac30_o38_1 := fun o => keepa o c30_o38_1
  have ac30_o38_2 := fun o => keepa o c30_o38_2
  have ac30_o38_3 := fun o => keepa o c30_o38_3
  have ac30_o38_4 := fun o => keepa o c30_o38_4
  have ac30_o38_5 := fun o => keepa o c30_o38_5
  have ac30_o44_0 := fun o => keepa o c30_o44_0
  have ac30_o44_1 := fun o => keepa o c30_o44_1
  have ac30_o44_2 := fun o => keepa o c30_o44_2
  have ac30_o44_3 := fun o => keepa o c30_o44_3
  have ac30_o44_4 := fun o => keepa o c30_o44_4
  have ac30_o44_5 := fun o => keepa o c30_o44_5
  have rP0 := P0.out.below hb'; clear P0; have P0 := Lib.hid rP0; clear rP0
  have rP1 := P1.out.below hb'; clear P1; have P1 := Lib.hid rP1; clear rP1
  have rP2 := P2.out.below hb'; clear P2; have P2 := Lib.hid rP2; clear rP2
  have rFo30 := Fo30.out.below hb'; clear Fo30; have Fo30 := Lib.hid rFo30; clear rFo30
  have rFo32 := Fo32.out.below hb'; clear Fo32; have Fo32 := Lib.hid rFo32; clear rFo32
  have rFo38 := Fo38.out.below hb'; clear Fo38; have Fo38 := Lib.hid rFo38; clear rFo38
  have rFo44 := Fo44.out.below hb'; clear Fo44; have Fo44 := Lib.hid rFo44; clear rFo44
  have rFo50 := Fo50.out.below hb'; clear Fo50; have Fo50 := Lib.hid rFo50; clear rFo50
  have rFo84 := Fo84.out.below hb'; clear Fo84; have Fo84 := Lib.hid rFo84; clear rFo84
  have rB := below_chain B.out (by omega) hb'; clear B; have B := Lib.hid rB; clear rB
  clear hb hb'
  go_wp2
  go_ret
  exact ⟨rfl, B.out⟩
end Go.Proofs.Ytmmgejnhfpfmnaa
