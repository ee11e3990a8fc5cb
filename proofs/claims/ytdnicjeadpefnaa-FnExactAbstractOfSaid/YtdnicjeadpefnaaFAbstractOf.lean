/-
  FnExactAbstractOf returns true for every input: its walk, out of the contracts.
-/
import Derived.Test.YtdnicjeadpefnaaLawMachine
import Derived.Test.YtdnicjeadpefnaaLawDfa
import Derived.Test.YtdnicjeadpefnaaLawConfig
import Derived.Test.YtdnicjeadpefnaaC28a
import Derived.Test.YtdnicjeadpefnaaOpen
namespace Go.Proofs.Ytdnicjeadpefnaa
open Go.RowKit

set_option maxHeartbeats 4000000 in
set_option maxRecDepth 100000 in
theorem walkAbstractOf (sy0 : Int) (st0 : Int) (A0 : Option Addr) (n0 : Nat) (c0 : Nat) (xs0 : List (Int × Int × Int)) (st1 : Int) (A1 : Option Addr) (n1 : Nat) (c1 : Nat) (xs1 : List Int) (st2 : Int) (A2 : Option Addr) (n2 : Nat) (c2 : Nat) (xs2 : List Int) (st3 : Int) (A3 : Option Addr) (n3 : Nat) (c3 : Nat) (xs3 : List Int) (B3 : Option Addr) (m3 : Nat) (d3 : Nat) (ys3 : List Int) (w : World) (h0 : RdS w [sgX enc3 3 A0 n0 xs0]) (hb0_0 : n0 ≤ 9223372036854775807) (_o0 : i64ok sy0) (_p0 : i64ok st0) (_oo0 : ∀ x ∈ xs0, i64ok x.1 ∧ i64ok x.2.1 ∧ i64ok x.2.2) (h1 : RdI w A1 n1 xs1) (hb1 : n1 ≤ 9223372036854775807) (_o1 : i64ok st1) (_oo1 : ∀ x ∈ xs1, i64ok x) (h2 : RdI w A2 n2 xs2) (hb2 : n2 ≤ 9223372036854775807) (_o2 : i64ok st2) (_oo2 : ∀ x ∈ xs2, i64ok x) (h3 : RdS w ([sgI A3 n3 xs3] ++ [sgI B3 m3 ys3])) (hb3_0 : n3 ≤ 9223372036854775807) (hb3_1 : m3 ≤ 9223372036854775807) (_o3 : i64ok st3) (_oo3 : ∀ x ∈ xs3, i64ok x) (_pp3 : ∀ x ∈ ys3, i64ok x) :
    Calls Try.prog 10 #[.agg #[.int .i64 sy0, .int .i64 st0, .slice A0 n0 c0], .agg #[.int .i64 st1, .slice A1 n1 c1], .agg #[.int .i64 st2, .slice A2 n2 c2], .agg #[.int .i64 st3, .slice A3 n3 c3, .slice B3 m3 d3]] w fun e w' => e = .returned (.bool true) ∧ Below w.heap.size w w' := by
  have P0 := Lib.hid (RdSU.mk' h0); clear h0
  have P1 := Lib.hid (RdU.mk' h1); clear h1
  have P2 := Lib.hid (RdU.mk' h2); clear h2
  have P3 := Lib.hid (RdSU.mk' h3); clear h3
  go_enter Try.func10, Try.ntmps10
  go_wp2_with fail
  refine (szMachine_c _ _ _ _ _ xs0 _ _ hb0_0 (by omega) (by omega)).mono ?_
  rintro e w1 ⟨rfl, hb⟩
  have hb' : Below w.heap.size w w1 := (by first | (with_reducible exact hb) | (with_reducible exact up1 hb) | (with_reducible exact up2 hb) | (with_reducible exact up3 hb) | (with_reducible exact up4 hb) | (with_reducible exact below_of_drew hb) | (with_reducible exact below_of_drew (up1 hb)))
  have z1 := hb'.size
  have c1_a0_0 : w1.cell? ⟨w.heap.size, 0, none⟩ = some (.int .i64 sy0) := keepc hb (by first | (simp; done) | (rw [World.cell?_alloc_past _ _ _ (by simp <;> omega)]; simp; done) | (rw [World.cell?_alloc_past _ _ _ (by simp <;> omega), World.cell?_alloc_past _ _ _ (by simp <;> omega)]; simp; done) | (rw [World.cell?_alloc_past _ _ _ (by simp <;> omega), World.cell?_alloc_past _ _ _ (by simp <;> omega), World.cell?_alloc_past _ _ _ (by simp <;> omega)]; simp; done) | (rw [World.cell?_alloc_at _ _ _ _ (by simp)]; simp; done) | (rw [World.cell?_alloc_past _ _ _ (by simp <;> omega), World.cell?_alloc_at _ _ _ _ (by simp)]; simp; done) | (rw [World.cell?_alloc_past _ _ _ (by simp <;> omega), World.cell?_alloc_past _ _ _ (by simp <;> omega), World.cell?_alloc_at _ _ _ _ (by simp)]; simp; done) | (rw [World.cell?_alloc_past _ _ _ (by simp <;> omega), World.cell?_alloc_past _ _ _ (by simp <;> omega), World.cell?_alloc_past _ _ _ (by simp <;> omega), World.cell?_alloc_at _ _ _ _ (by simp)]; simp; done))
  have hl_c1_a0_0 : w.heap.size < w1.heap.size := World.block_lt_of_cell? w1 _ c1_a0_0
  have c1_a0_1 : w1.cell? ⟨w.heap.size, 1, none⟩ = some (.int .i64 st0) := keepc hb (by first | (simp; done) | (rw [World.cell?_alloc_past _ _ _ (by simp <;> omega)]; simp; done) | (rw [World.cell?_alloc_past _ _ _ (by simp <;> omega), World.cell?_alloc_past _ _ _ (by simp <;> omega)]; simp; done) | (rw [World.cell?_alloc_past _ _ _ (by simp <;> omega), World.cell?_alloc_past _ _ _ (by simp <;> omega), World.cell?_alloc_past _ _ _ (by simp <;> omega)]; simp; done) | (rw [World.cell?_alloc_at _ _ _ _ (by simp)]; simp; done) | (rw [World.cell?_alloc_past _ _ _ (by simp <;> omega), World.cell?_alloc_at _ _ _ _ (by simp)]; simp; done) | (rw [World.cell?_alloc_past _ _ _ (by simp <;> omega), World.cell?_alloc_past _ _ _ (by simp <;> omega), World.cell?_alloc_at _ _ _ _ (by simp)]; simp; done) | (rw [World.cell?_alloc_past _ _ _ (by simp <;> omega), World.cell?_alloc_past _ _ _ (by simp <;> omega), World.cell?_alloc_past _ _ _ (by simp <;> omega), World.cell?_alloc_at _ _ _ _ (by simp)]; simp; done))
  have c1_a0_2 : w1.cell? ⟨w.heap.size, 2, none⟩ = some (.slice A0 n0 c0) := keepc hb (by first | (simp; done) | (rw [World.cell?_alloc_past _ _ _ (by simp <;> omega)]; simp; done) | (rw [World.cell?_alloc_past _ _ _ (by simp <;> omega), World.cell?_alloc_past _ _ _ (by simp <;> omega)]; simp; done) | (rw [World.cell?_alloc_past _ _ _ (by simp <;> omega), World.cell?_alloc_past _ _ _ (by simp <;> omega), World.cell?_alloc_past _ _ _ (by simp <;> omega)]; simp; done) | (rw [World.cell?_alloc_at _ _ _ _ (by simp)]; simp; done) | (rw [World.cell?_alloc_past _ _ _ (by simp <;> omega), World.cell?_alloc_at _ _ _ _ (by simp)]; simp; done) | (rw [World.cell?_alloc_past _ _ _ (by simp <;> omega), World.cell?_alloc_past _ _ _ (by simp <;> omega), World.cell?_alloc_at _ _ _ _ (by simp)]; simp; done) | (rw [World.cell?_alloc_past _ _ _ (by simp <;> omega), World.cell?_alloc_past _ _ _ (by simp <;> omega), World.cell?_alloc_past _ _ _ (by simp <;> omega), World.cell?_alloc_at _ _ _ _ (by simp)]; simp; done))
  have c1_a1_0 : w1.cell? ⟨(w.heap.size + 1), 0, none⟩ = some (.int .i64 st1) := keepc hb (by first | (simp; done) | (rw [World.cell?_alloc_past _ _ _ (by simp <;> omega)]; simp; done) | (rw [World.cell?_alloc_past _ _ _ (by simp <;> omega), World.cell?_alloc_past _ _ _ (by simp <;> omega)]; simp; done) | (rw [World.cell?_alloc_past _ _ _ (by simp <;> omega), World.cell?_alloc_past _ _ _ (by simp <;> omega), World.cell?_alloc_past _ _ _ (by simp <;> omega)]; simp; done) | (rw [World.cell?_alloc_at _ _ _ _ (by simp)]; simp; done) | (rw [World.cell?_alloc_past _ _ _ (by simp <;> omega), World.cell?_alloc_at _ _ _ _ (by simp)]; simp; done) | (rw [World.cell?_alloc_past _ _ _ (by simp <;> omega), World.cell?_alloc_past _ _ _ (by simp <;> omega), World.cell?_alloc_at _ _ _ _ (by simp)]; simp; done) | (rw [World.cell?_alloc_past _ _ _ (by simp <;> omega), World.cell?_alloc_past _ _ _ (by simp <;> omega), World.cell?_alloc_past _ _ _ (by simp <;> omega), World.cell?_alloc_at _ _ _ _ (by simp)]; simp; done))
  have hl_c1_a1_0 : (w.heap.size + 1) < w1.heap.size := World.block_lt_of_cell? w1 _ c1_a1_0
  have c1_a1_1 : w1.cell? ⟨(w.heap.size + 1), 1, none⟩ = some (.slice A1 n1 c1) := keepc hb (by first | (simp; done) | (rw [World.cell?_alloc_past _ _ _ (by simp <;> omega)]; simp; done) | (rw [World.cell?_alloc_past _ _ _ (by simp <;> omega), World.cell?_alloc_past _ _ _ (by simp <;> omega)]; simp; done) | (rw [World.cell?_alloc_past _ _ _ (by simp <;> omega), World.cell?_alloc_past _ _ _ (by simp <;> omega), World.cell?_alloc_past _ _ _ (by simp <;> omega)]; simp; done) | (rw [World.cell?_alloc_at _ _ _ _ (by simp)]; simp; done) | (rw [World.cell?_alloc_past _ _ _ (by simp <;> omega), World.cell?_alloc_at _ _ _ _ (by simp)]; simp; done) | (rw [World.cell?_alloc_past _ _ _ (by simp <;> omega), World.cell?_alloc_past _ _ _ (by simp <;> omega), World.cell?_alloc_at _ _ _ _ (by simp)]; simp; done) | (rw [World.cell?_alloc_past _ _ _ (by simp <;> omega), World.cell?_alloc_past _ _ _ (by simp <;> omega), World.cell?_alloc_past _ _ _ (by simp <;> omega), World.cell?_alloc_at _ _ _ _ (by simp)]; simp; done))
  have c1_a2_0 : w1.cell? ⟨(w.heap.size + 1 + 1), 0, none⟩ = some (.int .i64 st2) := keepc hb (by first | (simp; done) | (rw [World.cell?_alloc_past _ _ _ (by simp <;> omega)]; simp; done) | (rw [World.cell?_alloc_past _ _ _ (by simp <;> omega), World.cell?_alloc_past _ _ _ (by simp <;> omega)]; simp; done) | (rw [World.cell?_alloc_past _ _ _ (by simp <;> omega), World.cell?_alloc_past _ _ _ (by simp <;> omega), World.cell?_alloc_past _ _ _ (by simp <;> omega)]; simp; done) | (rw [World.cell?_alloc_at _ _ _ _ (by simp)]; simp; done) | (rw [World.cell?_alloc_past _ _ _ (by simp <;> omega), World.cell?_alloc_at _ _ _ _ (by simp)]; simp; done) | (rw [World.cell?_alloc_past _ _ _ (by simp <;> omega), World.cell?_alloc_past _ _ _ (by simp <;> omega), World.cell?_alloc_at _ _ _ _ (by simp)]; simp; done) | (rw [World.cell?_alloc_past _ _ _ (by simp <;> omega), World.cell?_alloc_past _ _ _ (by simp <;> omega), World.cell?_alloc_past _ _ _ (by simp <;> omega), World.cell?_alloc_at _ _ _ _ (by simp)]; simp; done))
  have hl_c1_a2_0 : (w.heap.size + 1 + 1) < w1.heap.size := World.block_lt_of_cell? w1 _ c1_a2_0
  have c1_a2_1 : w1.cell? ⟨(w.heap.size + 1 + 1), 1, none⟩ = some (.slice A2 n2 c2) := keepc hb (by first | (simp; done) | (rw [World.cell?_alloc_past _ _ _ (by simp <;> omega)]; simp; done) | (rw [World.cell?_alloc_past _ _ _ (by simp <;> omega), World.cell?_alloc_past _ _ _ (by simp <;> omega)]; simp; done) | (rw [World.cell?_alloc_past _ _ _ (by simp <;> omega), World.cell?_alloc_past _ _ _ (by simp <;> omega), World.cell?_alloc_past _ _ _ (by simp <;> omega)]; simp; done) | (rw [World.cell?_alloc_at _ _ _ _ (by simp)]; simp; done) | (rw [World.cell?_alloc_past _ _ _ (by simp <;> omega), World.cell?_alloc_at _ _ _ _ (by simp)]; simp; done) | (rw [World.cell?_alloc_past _ _ _ (by simp <;> omega), World.cell?_alloc_past _ _ _ (by simp <;> omega), World.cell?_alloc_at _ _ _ _ (by simp)]; simp; done) | (rw [World.cell?_alloc_past _ _ _ (by simp <;> omega), World.cell?_alloc_past _ _ _ (by simp <;> omega), World.cell?_alloc_past _ _ _ (by simp <;> omega), World.cell?_alloc_at _ _ _ _ (by simp)]; simp; done))
  have c1_a3_0 : w1.cell? ⟨(w.heap.size + 1 + 1 + 1), 0, none⟩ = some (.int .i64 st3) := keepc hb (by first | (simp; done) | (rw [World.cell?_alloc_past _ _ _ (by simp <;> omega)]; simp; done) | (rw [World.cell?_alloc_past _ _ _ (by simp <;> omega), World.cell?_alloc_past _ _ _ (by simp <;> omega)]; simp; done) | (rw [World.cell?_alloc_past _ _ _ (by simp <;> omega), World.cell?_alloc_past _ _ _ (by simp <;> omega), World.cell?_alloc_past _ _ _ (by simp <;> omega)]; simp; done) | (rw [World.cell?_alloc_at _ _ _ _ (by simp)]; simp; done) | (rw [World.cell?_alloc_past _ _ _ (by simp <;> omega), World.cell?_alloc_at _ _ _ _ (by simp)]; simp; done) | (rw [World.cell?_alloc_past _ _ _ (by simp <;> omega), World.cell?_alloc_past _ _ _ (by simp <;> omega), World.cell?_alloc_at _ _ _ _ (by simp)]; simp; done) | (rw [World.cell?_alloc_past _ _ _ (by simp <;> omega), World.cell?_alloc_past _ _ _ (by simp <;> omega), World.cell?_alloc_past _ _ _ (by simp <;> omega), World.cell?_alloc_at _ _ _ _ (by simp)]; simp; done))
  have hl_c1_a3_0 : (w.heap.size + 1 + 1 + 1) < w1.heap.size := World.block_lt_of_cell? w1 _ c1_a3_0
  have c1_a3_1 : w1.cell? ⟨(w.heap.size + 1 + 1 + 1), 1, none⟩ = some (.slice A3 n3 c3) := keepc hb (by first | (simp; done) | (rw [World.cell?_alloc_past _ _ _ (by simp <;> omega)]; simp; done) | (rw [World.cell?_alloc_past _ _ _ (by simp <;> omega), World.cell?_alloc_past _ _ _ (by simp <;> omega)]; simp; done) | (rw [World.cell?_alloc_past _ _ _ (by simp <;> omega), World.cell?_alloc_past _ _ _ (by simp <;> omega), World.cell?_alloc_past _ _ _ (by simp <;> omega)]; simp; done) | (rw [World.cell?_alloc_at _ _ _ _ (by simp)]; simp; done) | (rw [World.cell?_alloc_past _ _ _ (by simp <;> omega), World.cell?_alloc_at _ _ _ _ (by simp)]; simp; done) | (rw [World.cell?_alloc_past _ _ _ (by simp <;> omega), World.cell?_alloc_past _ _ _ (by simp <;> omega), World.cell?_alloc_at _ _ _ _ (by simp)]; simp; done) | (rw [World.cell?_alloc_past _ _ _ (by simp <;> omega), World.cell?_alloc_past _ _ _ (by simp <;> omega), World.cell?_alloc_past _ _ _ (by simp <;> omega), World.cell?_alloc_at _ _ _ _ (by simp)]; simp; done))
  have c1_a3_2 : w1.cell? ⟨(w.heap.size + 1 + 1 + 1), 2, none⟩ = some (.slice B3 m3 d3) := keepc hb (by first | (simp; done) | (rw [World.cell?_alloc_past _ _ _ (by simp <;> omega)]; simp; done) | (rw [World.cell?_alloc_past _ _ _ (by simp <;> omega), World.cell?_alloc_past _ _ _ (by simp <;> omega)]; simp; done) | (rw [World.cell?_alloc_past _ _ _ (by simp <;> omega), World.cell?_alloc_past _ _ _ (by simp <;> omega), World.cell?_alloc_past _ _ _ (by simp <;> omega)]; simp; done) | (rw [World.cell?_alloc_at _ _ _ _ (by simp)]; simp; done) | (rw [World.cell?_alloc_past _ _ _ (by simp <;> omega), World.cell?_alloc_at _ _ _ _ (by simp)]; simp; done) | (rw [World.cell?_alloc_past _ _ _ (by simp <;> omega), World.cell?_alloc_past _ _ _ (by simp <;> omega), World.cell?_alloc_at _ _ _ _ (by simp)]; simp; done) | (rw [World.cell?_alloc_past _ _ _ (by simp <;> omega), World.cell?_alloc_past _ _ _ (by simp <;> omega), World.cell?_alloc_past _ _ _ (by simp <;> omega), World.cell?_alloc_at _ _ _ _ (by simp)]; simp; done))
  have ac1_a0_0 := fun o => keepa o c1_a0_0
  have ac1_a0_1 := fun o => keepa o c1_a0_1
  have ac1_a0_2 := fun o => keepa o c1_a0_2
  have ac1_a1_0 := fun o => keepa o c1_a1_0
  have ac1_a1_1 := fun o => keepa o c1_a1_1
  have ac1_a2_0 := fun o => keepa o c1_a2_0
  have ac1_a2_1 := fun o => keepa o c1_a2_1
  have ac1_a3_0 := fun o => keepa o c1_a3_0
  have ac1_a3_1 := fun o => keepa o c1_a3_1
  have ac1_a3_2 := fun o => keepa o c1_a3_2
  have rP0 := P0.out.below hb'; clear P0; have P0 := Lib.hid rP0; clear rP0
  have rP1 := P1.out.below hb'; clear P1; have P1 := Lib.hid rP1; clear rP1
  have rP2 := P2.out.below hb'; clear P2; have P2 := Lib.hid rP2; clear rP2
  have rP3 := P3.out.below hb'; clear P3; have P3 := Lib.hid rP3; clear rP3
  have rB := hb'; have B := Lib.hid rB; clear rB
  clear hb hb'
  by_cases hs1 : 1048576 < n0
  · rw [szOf_neg' (by omega)]
    go_wp2
    go_ret
    exact ⟨rfl, B.out⟩
  rw [szOf_pos' (by omega)]
  have hs1' : (0 : Int) ≤ 1048576 - (n0 : Nat) := by omega
  go_wp2_with fail
  refine (szDfa_c _ _ _ _ _ _ hb1 (by omega) (by omega)).mono ?_
  rintro e w2 ⟨rfl, hb⟩
  have hb' : Below w1.heap.size w1 w2 := (by first | (with_reducible exact hb) | (with_reducible exact up1 hb) | (with_reducible exact up2 hb) | (with_reducible exact up3 hb) | (with_reducible exact up4 hb) | (with_reducible exact below_of_drew hb) | (with_reducible exact below_of_drew (up1 hb)))
  have z2 := hb'.size
  have c2_a0_0 : w2.cell? ⟨w.heap.size, 0, none⟩ = some (.int .i64 sy0) := keepc hb' c1_a0_0
  clear c1_a0_0 ac1_a0_0
  have c2_a0_1 : w2.cell? ⟨w.heap.size, 1, none⟩ = some (.int .i64 st0) := keepc hb' c1_a0_1
  clear c1_a0_1 ac1_a0_1
  have c2_a0_2 : w2.cell? ⟨w.heap.size, 2, none⟩ = some (.slice A0 n0 c0) := keepc hb' c1_a0_2
  clear c1_a0_2 ac1_a0_2
  have c2_a1_0 : w2.cell? ⟨(w.heap.size + 1), 0, none⟩ = some (.int .i64 st1) := keepc hb' c1_a1_0
  clear c1_a1_0 ac1_a1_0
  have c2_a1_1 : w2.cell? ⟨(w.heap.size + 1), 1, none⟩ = some (.slice A1 n1 c1) := keepc hb' c1_a1_1
  clear c1_a1_1 ac1_a1_1
  have c2_a2_0 : w2.cell? ⟨(w.heap.size + 1 + 1), 0, none⟩ = some (.int .i64 st2) := keepc hb' c1_a2_0
  clear c1_a2_0 ac1_a2_0
  have c2_a2_1 : w2.cell? ⟨(w.heap.size + 1 + 1), 1, none⟩ = some (.slice A2 n2 c2) := keepc hb' c1_a2_1
  clear c1_a2_1 ac1_a2_1
  have c2_a3_0 : w2.cell? ⟨(w.heap.size + 1 + 1 + 1), 0, none⟩ = some (.int .i64 st3) := keepc hb' c1_a3_0
  clear c1_a3_0 ac1_a3_0
  have c2_a3_1 : w2.cell? ⟨(w.heap.size + 1 + 1 + 1), 1, none⟩ = some (.slice A3 n3 c3) := keepc hb' c1_a3_1
  clear c1_a3_1 ac1_a3_1
  have c2_a3_2 : w2.cell? ⟨(w.heap.size + 1 + 1 + 1), 2, none⟩ = some (.slice B3 m3 d3) := keepc hb' c1_a3_2
  clear c1_a3_2 ac1_a3_2
  have ac2_a0_0 := fun o => keepa o c2_a0_0
  have ac2_a0_1 := fun o => keepa o c2_a0_1
  have ac2_a0_2 := fun o => keepa o c2_a0_2
  have ac2_a1_0 := fun o => keepa o c2_a1_0
  have ac2_a1_1 := fun o => keepa o c2_a1_1
  have ac2_a2_0 := fun o => keepa o c2_a2_0
  have ac2_a2_1 := fun o => keepa o c2_a2_1
  have ac2_a3_0 := fun o => keepa o c2_a3_0
  have ac2_a3_1 := fun o => keepa o c2_a3_1
  have ac2_a3_2 := fun o => keepa o c2_a3_2
  have rP0 := P0.out.below hb'; clear P0; have P0 := Lib.hid rP0; clear rP0
  have rP1 := P1.out.below hb'; clear P1; have P1 := Lib.hid rP1; clear rP1
  have rP2 := P2.out.below hb'; clear P2; have P2 := Lib.hid rP2; clear rP2
  have rP3 := P3.out.below hb'; clear P3; have P3 := Lib.hid rP3; clear rP3
  have rB := below_chain B.out (by omega) hb'; clear B; have B := Lib.hid rB; clear rB
  clear hb hb'
  by_cases hs2 : 1048576 - (n0 : Nat) < n1
  · rw [szOf_neg' (by omega)]
    go_wp2
    go_ret
    exact ⟨rfl, B.out⟩
  rw [szOf_pos' (by omega)]
  have hs2' : (0 : Int) ≤ 1048576 - (n0 : Nat) - (n1 : Nat) := by omega
  go_wp2_with fail
  refine (szDfa_c _ _ _ _ _ _ hb2 (by omega) (by omega)).mono ?_
  rintro e w3 ⟨rfl, hb⟩
  have hb' : Below w2.heap.size w2 w3 := (by first | (with_reducible exact hb) | (with_reducible exact up1 hb) | (with_reducible exact up2 hb) | (with_reducible exact up3 hb) | (with_reducible exact up4 hb) | (with_reducible exact below_of_drew hb) | (with_reducible exact below_of_drew (up1 hb)))
  have z3 := hb'.size
  have c3_a0_0 : w3.cell? ⟨w.heap.size, 0, none⟩ = some (.int .i64 sy0) := keepc hb' c2_a0_0
  clear c2_a0_0 ac2_a0_0
  have c3_a0_1 : w3.cell? ⟨w.heap.size, 1, none⟩ = some (.int .i64 st0) := keepc hb' c2_a0_1
  clear c2_a0_1 ac2_a0_1
  have c3_a0_2 : w3.cell? ⟨w.heap.size, 2, none⟩ = some (.slice A0 n0 c0) := keepc hb' c2_a0_2
  clear c2_a0_2 ac2_a0_2
  have c3_a1_0 : w3.cell? ⟨(w.heap.size + 1), 0, none⟩ = some (.int .i64 st1) := keepc hb' c2_a1_0
  clear c2_a1_0 ac2_a1_0
  have c3_a1_1 : w3.cell? ⟨(w.heap.size + 1), 1, none⟩ = some (.slice A1 n1 c1) := keepc hb' c2_a1_1
  clear c2_a1_1 ac2_a1_1
  have c3_a2_0 : w3.cell? ⟨(w.heap.size + 1 + 1), 0, none⟩ = some (.int .i64 st2) := keepc hb' c2_a2_0
  clear c2_a2_0 ac2_a2_0
  have c3_a2_1 : w3.cell? ⟨(w.heap.size + 1 + 1), 1, none⟩ = some (.slice A2 n2 c2) := keepc hb' c2_a2_1
  clear c2_a2_1 ac2_a2_1
  have c3_a3_0 : w3.cell? ⟨(w.heap.size + 1 + 1 + 1), 0, none⟩ = some (.int .i64 st3) := keepc hb' c2_a3_0
  clear c2_a3_0 ac2_a3_0
  have c3_a3_1 : w3.cell? ⟨(w.heap.size + 1 + 1 + 1), 1, none⟩ = some (.slice A3 n3 c3) := keepc hb' c2_a3_1
  clear c2_a3_1 ac2_a3_1
  have c3_a3_2 : w3.cell? ⟨(w.heap.size + 1 + 1 + 1), 2, none⟩ = some (.slice B3 m3 d3) := keepc hb' c2_a3_2
  clear c2_a3_2 ac2_a3_2
  have ac3_a0_0 := fun o => keepa o c3_a0_0
  have ac3_a0_1 := fun o => keepa o c3_a0_1
  have ac3_a0_2 := fun o => keepa o c3_a0_2
  have ac3_a1_0 := fun o => keepa o c3_a1_0
  have ac3_a1_1 := fun o => keepa o c3_a1_1
  have ac3_a2_0 := fun o => keepa o c3_a2_0
  have ac3_a2_1 := fun o => keepa o c3_a2_1
  have ac3_a3_0 := fun o => keepa o c3_a3_0
  have ac3_a3_1 := fun o => keepa o c3_a3_1
  have ac3_a3_2 := fun o => keepa o c3_a3_2
  have rP0 := P0.out.below hb'; clear P0; have P0 := Lib.hid rP0; clear rP0
  have rP1 := P1.out.below hb'; clear P1; have P1 := Lib.hid rP1; clear rP1
  have rP2 := P2.out.below hb'; clear P2; have P2 := Lib.hid rP2; clear rP2
  have rP3 := P3.out.below hb'; clear P3; have P3 := Lib.hid rP3; clear rP3
  have rB := below_chain B.out (by omega) hb'; clear B; have B := Lib.hid rB; clear rB
  clear hb hb'
  by_cases hs3 : 1048576 - (n0 : Nat) - (n1 : Nat) < n2
  · rw [szOf_neg' (by omega)]
    go_wp2
    go_ret
    exact ⟨rfl, B.out⟩
  rw [szOf_pos' (by omega)]
  have hs3' : (0 : Int) ≤ 1048576 - (n0 : Nat) - (n1 : Nat) - (n2 : Nat) := by omega
  go_wp2_with fail
  refine (szConfig_c _ _ _ _ xs3 _ _ _ ys3 _ _ hb3_0 hb3_1 (by omega) (by omega)).mono ?_
  rintro e w4 ⟨rfl, hb⟩
  have hb' : Below w3.heap.size w3 w4 := (by first | (with_reducible exact hb) | (with_reducible exact up1 hb) | (with_reducible exact up2 hb) | (with_reducible exact up3 hb) | (with_reducible exact up4 hb) | (with_reducible exact below_of_drew hb) | (with_reducible exact below_of_drew (up1 hb)))
  have z4 := hb'.size
  have c4_a0_0 : w4.cell? ⟨w.heap.size, 0, none⟩ = some (.int .i64 sy0) := keepc hb' c3_a0_0
  clear c3_a0_0 ac3_a0_0
  have c4_a0_1 : w4.cell? ⟨w.heap.size, 1, none⟩ = some (.int .i64 st0) := keepc hb' c3_a0_1
  clear c3_a0_1 ac3_a0_1
  have c4_a0_2 : w4.cell? ⟨w.heap.size, 2, none⟩ = some (.slice A0 n0 c0) := keepc hb' c3_a0_2
  clear c3_a0_2 ac3_a0_2
  have c4_a1_0 : w4.cell? ⟨(w.heap.size + 1), 0, none⟩ = some (.int .i64 st1) := keepc hb' c3_a1_0
  clear c3_a1_0 ac3_a1_0
  have c4_a1_1 : w4.cell? ⟨(w.heap.size + 1), 1, none⟩ = some (.slice A1 n1 c1) := keepc hb' c3_a1_1
  clear c3_a1_1 ac3_a1_1
  have c4_a2_0 : w4.cell? ⟨(w.heap.size + 1 + 1), 0, none⟩ = some (.int .i64 st2) := keepc hb' c3_a2_0
  clear c3_a2_0 ac3_a2_0
  have c4_a2_1 : w4.cell? ⟨(w.heap.size + 1 + 1), 1, none⟩ = some (.slice A2 n2 c2) := keepc hb' c3_a2_1
  clear c3_a2_1 ac3_a2_1
  have c4_a3_0 : w4.cell? ⟨(w.heap.size + 1 + 1 + 1), 0, none⟩ = some (.int .i64 st3) := keepc hb' c3_a3_0
  clear c3_a3_0 ac3_a3_0
  have c4_a3_1 : w4.cell? ⟨(w.heap.size + 1 + 1 + 1), 1, none⟩ = some (.slice A3 n3 c3) := keepc hb' c3_a3_1
  clear c3_a3_1 ac3_a3_1
  have c4_a3_2 : w4.cell? ⟨(w.heap.size + 1 + 1 + 1), 2, none⟩ = some (.slice B3 m3 d3) := keepc hb' c3_a3_2
  clear c3_a3_2 ac3_a3_2
  have ac4_a0_0 := fun o => keepa o c4_a0_0
  have ac4_a0_1 := fun o => keepa o c4_a0_1
  have ac4_a0_2 := fun o => keepa o c4_a0_2
  have ac4_a1_0 := fun o => keepa o c4_a1_0
  have ac4_a1_1 := fun o => keepa o c4_a1_1
  have ac4_a2_0 := fun o => keepa o c4_a2_0
  have ac4_a2_1 := fun o => keepa o c4_a2_1
  have ac4_a3_0 := fun o => keepa o c4_a3_0
  have ac4_a3_1 := fun o => keepa o c4_a3_1
  have ac4_a3_2 := fun o => keepa o c4_a3_2
  have rP0 := P0.out.below hb'; clear P0; have P0 := Lib.hid rP0; clear rP0
  have rP1 := P1.out.below hb'; clear P1; have P1 := Lib.hid rP1; clear rP1
  have rP2 := P2.out.below hb'; clear P2; have P2 := Lib.hid rP2; clear rP2
  have rP3 := P3.out.below hb'; clear P3; have P3 := Lib.hid rP3; clear rP3
  have rB := below_chain B.out (by omega) hb'; clear B; have B := Lib.hid rB; clear rB
  clear hb hb'
  by_cases hs4 : 1048576 - (n0 : Nat) - (n1 : Nat) - (n2 : Nat) < (n3 + m3)
  · rw [szOf_neg' (by omega)]
    go_wp2
    go_ret
    exact ⟨rfl, B.out⟩
  rw [szOf_pos' (by omega)]
  have hs4' : (0 : Int) ≤ 1048576 - (n0 : Nat) - (n1 : Nat) - (n2 : Nat) - ((n3 + m3) : Nat) := by omega
  go_wp2_with fail
  have fx_c4_a0_0 := Ext.cell c4_a0_0
  have fx_c4_a0_1 := Ext.cell c4_a0_1
  have fx_c4_a0_2 := Ext.cell c4_a0_2
  have fx_c4_a1_0 := Ext.cell c4_a1_0
  have fx_c4_a1_1 := Ext.cell c4_a1_1
  have fx_c4_a2_0 := Ext.cell c4_a2_0
  have fx_c4_a2_1 := Ext.cell c4_a2_1
  have fx_c4_a3_0 := Ext.cell c4_a3_0
  have fx_c4_a3_1 := Ext.cell c4_a3_1
  have fx_c4_a3_2 := Ext.cell c4_a3_2
  refine Mix.wp_region_mix [3, 1, 3, 1, 3, 1, 3, 1, 1, 0, 0, 0, 0, 0] (fun w' => ∃ x : Ext w4, w' = x.w) (by kernel_rfl) (by kernel_rfl) (InExt.drew _) ?_
  repeat (first | (refine Mix.wpMix_read (by rfl) ?_; go_big_quiet_step (fail); refine wpQuiet_nil ?_) | (refine Mix.wpMix_pure (by rfl) ?_; go_big_quiet_step (fail); refine wpQuiet_nil ?_))
  refine Mix.wpMix_chg (by rfl) (fun K hK => ?_)
  go_wp2_with fail
  refine (toMachine_c _ _ _ _ _ _ _ (by exact (P0.out.rd)) (by omega)).mono ?_
  rintro e w5 ⟨g011, rfl, q5, hb⟩
  have hb' : Below w4.heap.size w4 w5 := (by first | (with_reducible exact hb) | (with_reducible exact up1 hb) | (with_reducible exact up2 hb) | (with_reducible exact up3 hb) | (with_reducible exact up4 hb) | (with_reducible exact below_of_drew hb) | (with_reducible exact below_of_drew (up1 hb)))
  have z5 := hb'.size
  have c5_a0_0 : w5.cell? ⟨w.heap.size, 0, none⟩ = some (.int .i64 sy0) := keepc hb' c4_a0_0
  clear c4_a0_0 ac4_a0_0
  have c5_a0_1 : w5.cell? ⟨w.heap.size, 1, none⟩ = some (.int .i64 st0) := keepc hb' c4_a0_1
  clear c4_a0_1 ac4_a0_1
  have c5_a0_2 : w5.cell? ⟨w.heap.size, 2, none⟩ = some (.slice A0 n0 c0) := keepc hb' c4_a0_2
  clear c4_a0_2 ac4_a0_2
  have c5_a1_0 : w5.cell? ⟨(w.heap.size + 1), 0, none⟩ = some (.int .i64 st1) := keepc hb' c4_a1_0
  clear c4_a1_0 ac4_a1_0
  have c5_a1_1 : w5.cell? ⟨(w.heap.size + 1), 1, none⟩ = some (.slice A1 n1 c1) := keepc hb' c4_a1_1
  clear c4_a1_1 ac4_a1_1
  have c5_a2_0 : w5.cell? ⟨(w.heap.size + 1 + 1), 0, none⟩ = some (.int .i64 st2) := keepc hb' c4_a2_0
  clear c4_a2_0 ac4_a2_0
  have c5_a2_1 : w5.cell? ⟨(w.heap.size + 1 + 1), 1, none⟩ = some (.slice A2 n2 c2) := keepc hb' c4_a2_1
  clear c4_a2_1 ac4_a2_1
  have c5_a3_0 : w5.cell? ⟨(w.heap.size + 1 + 1 + 1), 0, none⟩ = some (.int .i64 st3) := keepc hb' c4_a3_0
  clear c4_a3_0 ac4_a3_0
  have c5_a3_1 : w5.cell? ⟨(w.heap.size + 1 + 1 + 1), 1, none⟩ = some (.slice A3 n3 c3) := keepc hb' c4_a3_1
  clear c4_a3_1 ac4_a3_1
  have c5_a3_2 : w5.cell? ⟨(w.heap.size + 1 + 1 + 1), 2, none⟩ = some (.slice B3 m3 d3) := keepc hb' c4_a3_2
  clear c4_a3_2 ac4_a3_2
  have ac5_a0_0 := fun o => keepa o c5_a0_0
  have ac5_a0_1 := fun o => keepa o c5_a0_1
  have ac5_a0_2 := fun o => keepa o c5_a0_2
  have ac5_a1_0 := fun o => keepa o c5_a1_0
  have ac5_a1_1 := fun o => keepa o c5_a1_1
  have ac5_a2_0 := fun o => keepa o c5_a2_0
  have ac5_a2_1 := fun o => keepa o c5_a2_1
  have ac5_a3_0 := fun o => keepa o c5_a3_0
  have ac5_a3_1 := fun o => keepa o c5_a3_1
  have ac5_a3_2 := fun o => keepa o c5_a3_2
  have rP0 := P0.out.below hb'; clear P0; have P0 := Lib.hid rP0; clear rP0
  have rP1 := P1.out.below hb'; clear P1; have P1 := Lib.hid rP1; clear rP1
  have rP2 := P2.out.below hb'; clear P2; have P2 := Lib.hid rP2; clear rP2
  have rP3 := P3.out.below hb'; clear P3; have P3 := Lib.hid rP3; clear rP3
  have rB := below_chain B.out (by omega) hb'; clear B; have B := Lib.hid rB; clear rB
  have Fo12 := Lib.hid q5; clear q5
  have em5 : Below w4.heap.size w4 w5 := hb'
  clear hb hb'
  go_wp2_with fail
  refine hK _ _ ⟨⟨_, em5⟩, rfl⟩ ?_
  clear hK K
  repeat (first | (refine Mix.wpMix_read (by rfl) ?_; go_big_quiet_step (fail); refine wpQuiet_nil ?_) | (refine Mix.wpMix_pure (by rfl) ?_; go_big_quiet_step (fail); refine wpQuiet_nil ?_))
  refine Mix.wpMix_chg (by rfl) (fun K hK => ?_)
  go_wp2_with fail
  refine (toDfa_c _ _ _ _ _ _ (by exact (P1.out.1)) (by omega)).mono ?_
  rintro e w6 ⟨g13, rfl, q6, hb⟩
  have hb' : Below w5.heap.size w5 w6 := (by first | (with_reducible exact hb) | (with_reducible exact up1 hb) | (with_reducible exact up2 hb) | (with_reducible exact up3 hb) | (with_reducible exact up4 hb) | (with_reducible exact below_of_drew hb) | (with_reducible exact below_of_drew (up1 hb)))
  have z6 := hb'.size
  have c6_a0_0 : w6.cell? ⟨w.heap.size, 0, none⟩ = some (.int .i64 sy0) := keepc hb' c5_a0_0
  clear c5_a0_0 ac5_a0_0
  have c6_a0_1 : w6.cell? ⟨w.heap.size, 1, none⟩ = some (.int .i64 st0) := keepc hb' c5_a0_1
  clear c5_a0_1 ac5_a0_1
  have c6_a0_2 : w6.cell? ⟨w.heap.size, 2, none⟩ = some (.slice A0 n0 c0) := keepc hb' c5_a0_2
  clear c5_a0_2 ac5_a0_2
  have c6_a1_0 : w6.cell? ⟨(w.heap.size + 1), 0, none⟩ = some (.int .i64 st1) := keepc hb' c5_a1_0
  clear c5_a1_0 ac5_a1_0
  have c6_a1_1 : w6.cell? ⟨(w.heap.size + 1), 1, none⟩ = some (.slice A1 n1 c1) := keepc hb' c5_a1_1
  clear c5_a1_1 ac5_a1_1
  have c6_a2_0 : w6.cell? ⟨(w.heap.size + 1 + 1), 0, none⟩ = some (.int .i64 st2) := keepc hb' c5_a2_0
  clear c5_a2_0 ac5_a2_0
  have c6_a2_1 : w6.cell? ⟨(w.heap.size + 1 + 1), 1, none⟩ = some (.slice A2 n2 c2) := keepc hb' c5_a2_1
  clear c5_a2_1 ac5_a2_1
  have c6_a3_0 : w6.cell? ⟨(w.heap.size + 1 + 1 + 1), 0, none⟩ = some (.int .i64 st3) := keepc hb' c5_a3_0
  clear c5_a3_0 ac5_a3_0
  have c6_a3_1 : w6.cell? ⟨(w.heap.size + 1 + 1 + 1), 1, none⟩ = some (.slice A3 n3 c3) := keepc hb' c5_a3_1
  clear c5_a3_1 ac5_a3_1
  have c6_a3_2 : w6.cell? ⟨(w.heap.size + 1 + 1 + 1), 2, none⟩ = some (.slice B3 m3 d3) := keepc hb' c5_a3_2
  clear c5_a3_2 ac5_a3_2
  have ac6_a0_0 := fun o => keepa o c6_a0_0
  have ac6_a0_1 := fun o => keepa o c6_a0_1
  have ac6_a0_2 := fun o => keepa o c6_a0_2
  have ac6_a1_0 := fun o => keepa o c6_a1_0
  have ac6_a1_1 := fun o => keepa o c6_a1_1
  have ac6_a2_0 := fun o => keepa o c6_a2_0
  have ac6_a2_1 := fun o => keepa o c6_a2_1
  have ac6_a3_0 := fun o => keepa o c6_a3_0
  have ac6_a3_1 := fun o => keepa o c6_a3_1
  have ac6_a3_2 := fun o => keepa o c6_a3_2
  have rP0 := P0.out.below hb'; clear P0; have P0 := Lib.hid rP0; clear rP0
  have rP1 := P1.out.below hb'; clear P1; have P1 := Lib.hid rP1; clear rP1
  have rP2 := P2.out.below hb'; clear P2; have P2 := Lib.hid rP2; clear rP2
  have rP3 := P3.out.below hb'; clear P3; have P3 := Lib.hid rP3; clear rP3
  have rFo12 := Fo12.out.below hb'; clear Fo12; have Fo12 := Lib.hid rFo12; clear rFo12
  have rB := below_chain B.out (by omega) hb'; clear B; have B := Lib.hid rB; clear rB
  have Fo14 := Lib.hid q6; clear q6
  have em6 : Below w4.heap.size w4 w6 := below_chain em5 (by omega) hb'
  clear hb hb'
  go_wp2_with fail
  refine hK _ _ ⟨⟨_, em6⟩, rfl⟩ ?_
  clear hK K
  repeat (first | (refine Mix.wpMix_read (by rfl) ?_; go_big_quiet_step (fail); refine wpQuiet_nil ?_) | (refine Mix.wpMix_pure (by rfl) ?_; go_big_quiet_step (fail); refine wpQuiet_nil ?_))
  refine Mix.wpMix_chg (by rfl) (fun K hK => ?_)
  go_wp2_with fail
  refine (toDfa_c _ _ _ _ _ _ (by exact (P2.out.1)) (by omega)).mono ?_
  rintro e w7 ⟨g15, rfl, q7, hb⟩
  have hb' : Below w6.heap.size w6 w7 := (by first | (with_reducible exact hb) | (with_reducible exact up1 hb) | (with_reducible exact up2 hb) | (with_reducible exact up3 hb) | (with_reducible exact up4 hb) | (with_reducible exact below_of_drew hb) | (with_reducible exact below_of_drew (up1 hb)))
  have z7 := hb'.size
  have c7_a0_0 : w7.cell? ⟨w.heap.size, 0, none⟩ = some (.int .i64 sy0) := keepc hb' c6_a0_0
  clear c6_a0_0 ac6_a0_0
  have c7_a0_1 : w7.cell? ⟨w.heap.size, 1, none⟩ = some (.int .i64 st0) := keepc hb' c6_a0_1
  clear c6_a0_1 ac6_a0_1
  have c7_a0_2 : w7.cell? ⟨w.heap.size, 2, none⟩ = some (.slice A0 n0 c0) := keepc hb' c6_a0_2
  clear c6_a0_2 ac6_a0_2
  have c7_a1_0 : w7.cell? ⟨(w.heap.size + 1), 0, none⟩ = some (.int .i64 st1) := keepc hb' c6_a1_0
  clear c6_a1_0 ac6_a1_0
  have c7_a1_1 : w7.cell? ⟨(w.heap.size + 1), 1, none⟩ = some (.slice A1 n1 c1) := keepc hb' c6_a1_1
  clear c6_a1_1 ac6_a1_1
  have c7_a2_0 : w7.cell? ⟨(w.heap.size + 1 + 1), 0, none⟩ = some (.int .i64 st2) := keepc hb' c6_a2_0
  clear c6_a2_0 ac6_a2_0
  have c7_a2_1 : w7.cell? ⟨(w.heap.size + 1 + 1), 1, none⟩ = some (.slice A2 n2 c2) := keepc hb' c6_a2_1
  clear c6_a2_1 ac6_a2_1
  have c7_a3_0 : w7.cell? ⟨(w.heap.size + 1 + 1 + 1), 0, none⟩ = some (.int .i64 st3) := keepc hb' c6_a3_0
  clear c6_a3_0 ac6_a3_0
  have c7_a3_1 : w7.cell? ⟨(w.heap.size + 1 + 1 + 1), 1, none⟩ = some (.slice A3 n3 c3) := keepc hb' c6_a3_1
  clear c6_a3_1 ac6_a3_1
  have c7_a3_2 : w7.cell? ⟨(w.heap.size + 1 + 1 + 1), 2, none⟩ = some (.slice B3 m3 d3) := keepc hb' c6_a3_2
  clear c6_a3_2 ac6_a3_2
  have ac7_a0_0 := fun o => keepa o c7_a0_0
  have ac7_a0_1 := fun o => keepa o c7_a0_1
  have ac7_a0_2 := fun o => keepa o c7_a0_2
  have ac7_a1_0 := fun o => keepa o c7_a1_0
  have ac7_a1_1 := fun o => keepa o c7_a1_1
  have ac7_a2_0 := fun o => keepa o c7_a2_0
  have ac7_a2_1 := fun o => keepa o c7_a2_1
  have ac7_a3_0 := fun o => keepa o c7_a3_0
  have ac7_a3_1 := fun o => keepa o c7_a3_1
  have ac7_a3_2 := fun o => keepa o c7_a3_2
  have rP0 := P0.out.below hb'; clear P0; have P0 := Lib.hid rP0; clear rP0
  have rP1 := P1.out.below hb'; clear P1; have P1 := Lib.hid rP1; clear rP1
  have rP2 := P2.out.below hb'; clear P2; have P2 := Lib.hid rP2; clear rP2
  have rP3 := P3.out.below hb'; clear P3; have P3 := Lib.hid rP3; clear rP3
  have rFo12 := Fo12.out.below hb'; clear Fo12; have Fo12 := Lib.hid rFo12; clear rFo12
  have rFo14 := Fo14.out.below hb'; clear Fo14; have Fo14 := Lib.hid rFo14; clear rFo14
  have rB := below_chain B.out (by omega) hb'; clear B; have B := Lib.hid rB; clear rB
  have Fo16 := Lib.hid q7; clear q7
  have em7 : Below w4.heap.size w4 w7 := below_chain em6 (by omega) hb'
  clear hb hb'
  go_wp2_with fail
  refine hK _ _ ⟨⟨_, em7⟩, rfl⟩ ?_
  clear hK K
  repeat (first | (refine Mix.wpMix_read (by rfl) ?_; go_big_quiet_step (fail); refine wpQuiet_nil ?_) | (refine Mix.wpMix_pure (by rfl) ?_; go_big_quiet_step (fail); refine wpQuiet_nil ?_))
  refine Mix.wpMix_chg (by rfl) (fun K hK => ?_)
  go_wp2_with fail
  refine (toConfig_c _ _ _ _ _ _ _ _ _ _ (by exact (P3.out.rd)) (by omega) (by omega)).mono ?_
  rintro e w8 ⟨g017, g118, rfl, q8, hb⟩
  have hb' : Below w7.heap.size w7 w8 := (by first | (with_reducible exact hb) | (with_reducible exact up1 hb) | (with_reducible exact up2 hb) | (with_reducible exact up3 hb) | (with_reducible exact up4 hb) | (with_reducible exact below_of_drew hb) | (with_reducible exact below_of_drew (up1 hb)))
  have z8 := hb'.size
  have c8_a0_0 : w8.cell? ⟨w.heap.size, 0, none⟩ = some (.int .i64 sy0) := keepc hb' c7_a0_0
  clear c7_a0_0 ac7_a0_0
  have c8_a0_1 : w8.cell? ⟨w.heap.size, 1, none⟩ = some (.int .i64 st0) := keepc hb' c7_a0_1
  clear c7_a0_1 ac7_a0_1
  have c8_a0_2 : w8.cell? ⟨w.heap.size, 2, none⟩ = some (.slice A0 n0 c0) := keepc hb' c7_a0_2
  clear c7_a0_2 ac7_a0_2
  have c8_a1_0 : w8.cell? ⟨(w.heap.size + 1), 0, none⟩ = some (.int .i64 st1) := keepc hb' c7_a1_0
  clear c7_a1_0 ac7_a1_0
  have c8_a1_1 : w8.cell? ⟨(w.heap.size + 1), 1, none⟩ = some (.slice A1 n1 c1) := keepc hb' c7_a1_1
  clear c7_a1_1 ac7_a1_1
  have c8_a2_0 : w8.cell? ⟨(w.heap.size + 1 + 1), 0, none⟩ = some (.int .i64 st2) := keepc hb' c7_a2_0
  clear c7_a2_0 ac7_a2_0
  have c8_a2_1 : w8.cell? ⟨(w.heap.size + 1 + 1), 1, none⟩ = some (.slice A2 n2 c2) := keepc hb' c7_a2_1
  clear c7_a2_1 ac7_a2_1
  have c8_a3_0 : w8.cell? ⟨(w.heap.size + 1 + 1 + 1), 0, none⟩ = some (.int .i64 st3) := keepc hb' c7_a3_0
  clear c7_a3_0 ac7_a3_0
  have c8_a3_1 : w8.cell? ⟨(w.heap.size + 1 + 1 + 1), 1, none⟩ = some (.slice A3 n3 c3) := keepc hb' c7_a3_1
  clear c7_a3_1 ac7_a3_1
  have c8_a3_2 : w8.cell? ⟨(w.heap.size + 1 + 1 + 1), 2, none⟩ = some (.slice B3 m3 d3) := keepc hb' c7_a3_2
  clear c7_a3_2 ac7_a3_2
  have ac8_a0_0 := fun o => keepa o c8_a0_0
  have ac8_a0_1 := fun o => keepa o c8_a0_1
  have ac8_a0_2 := fun o => keepa o c8_a0_2
  have ac8_a1_0 := fun o => keepa o c8_a1_0
  have ac8_a1_1 := fun o => keepa o c8_a1_1
  have ac8_a2_0 := fun o => keepa o c8_a2_0
  have ac8_a2_1 := fun o => keepa o c8_a2_1
  have ac8_a3_0 := fun o => keepa o c8_a3_0
  have ac8_a3_1 := fun o => keepa o c8_a3_1
  have ac8_a3_2 := fun o => keepa o c8_a3_2
  have rP0 := P0.out.below hb'; clear P0; have P0 := Lib.hid rP0; clear rP0
  have rP1 := P1.out.below hb'; clear P1; have P1 := Lib.hid rP1; clear rP1
  have rP2 := P2.out.below hb'; clear P2; have P2 := Lib.hid rP2; clear rP2
  have rP3 := P3.out.below hb'; clear P3; have P3 := Lib.hid rP3; clear rP3
  have rFo12 := Fo12.out.below hb'; clear Fo12; have Fo12 := Lib.hid rFo12; clear rFo12
  have rFo14 := Fo14.out.below hb'; clear Fo14; have Fo14 := Lib.hid rFo14; clear rFo14
  have rFo16 := Fo16.out.below hb'; clear Fo16; have Fo16 := Lib.hid rFo16; clear rFo16
  have rB := below_chain B.out (by omega) hb'; clear B; have B := Lib.hid rB; clear rB
  have Fo19 := Lib.hid q8; clear q8
  have em8 : Below w4.heap.size w4 w8 := below_chain em7 (by omega) hb'
  clear hb hb'
  go_wp2_with fail
  refine hK _ _ ⟨⟨_, em8⟩, rfl⟩ ?_
  clear hK K
  refine Mix.wpMix_chg (by rfl) (fun K hK => ?_)
  go_wp2_with fail
  refine (sAbstractOf_c _ _ _ _ _ _ _ _ _ _ _ _ _ _ _ _ _ _ _ _ _ _ _ _ _ _ (by exact (Fo12.out.rd)) (by exact (Fo14.out.rdI)) (by exact (Fo16.out.rdI)) (by exact (Fo19.out.rd)) (by omega) (by omega) (by omega) (by omega) (by omega) (Nat.le_refl _)).mono ?_
  rintro e w9 ⟨A20, n21, c22, rfl, q23, l24, hb⟩
  have hb' : Below w8.heap.size w8 w9 := (by first | (with_reducible exact hb) | (with_reducible exact up1 hb) | (with_reducible exact up2 hb) | (with_reducible exact up3 hb) | (with_reducible exact up4 hb) | (with_reducible exact below_of_drew hb) | (with_reducible exact below_of_drew (up1 hb)))
  have z9 := hb'.size
  have c9_a0_0 : w9.cell? ⟨w.heap.size, 0, none⟩ = some (.int .i64 sy0) := keepc hb' c8_a0_0
  clear c8_a0_0 ac8_a0_0
  have c9_a0_1 : w9.cell? ⟨w.heap.size, 1, none⟩ = some (.int .i64 st0) := keepc hb' c8_a0_1
  clear c8_a0_1 ac8_a0_1
  have c9_a0_2 : w9.cell? ⟨w.heap.size, 2, none⟩ = some (.slice A0 n0 c0) := keepc hb' c8_a0_2
  clear c8_a0_2 ac8_a0_2
  have c9_a1_0 : w9.cell? ⟨(w.heap.size + 1), 0, none⟩ = some (.int .i64 st1) := keepc hb' c8_a1_0
  clear c8_a1_0 ac8_a1_0
  have c9_a1_1 : w9.cell? ⟨(w.heap.size + 1), 1, none⟩ = some (.slice A1 n1 c1) := keepc hb' c8_a1_1
  clear c8_a1_1 ac8_a1_1
  have c9_a2_0 : w9.cell? ⟨(w.heap.size + 1 + 1), 0, none⟩ = some (.int .i64 st2) := keepc hb' c8_a2_0
  clear c8_a2_0 ac8_a2_0
  have c9_a2_1 : w9.cell? ⟨(w.heap.size + 1 + 1), 1, none⟩ = some (.slice A2 n2 c2) := keepc hb' c8_a2_1
  clear c8_a2_1 ac8_a2_1
  have c9_a3_0 : w9.cell? ⟨(w.heap.size + 1 + 1 + 1), 0, none⟩ = some (.int .i64 st3) := keepc hb' c8_a3_0
  clear c8_a3_0 ac8_a3_0
  have c9_a3_1 : w9.cell? ⟨(w.heap.size + 1 + 1 + 1), 1, none⟩ = some (.slice A3 n3 c3) := keepc hb' c8_a3_1
  clear c8_a3_1 ac8_a3_1
  have c9_a3_2 : w9.cell? ⟨(w.heap.size + 1 + 1 + 1), 2, none⟩ = some (.slice B3 m3 d3) := keepc hb' c8_a3_2
  clear c8_a3_2 ac8_a3_2
  have ac9_a0_0 := fun o => keepa o c9_a0_0
  have ac9_a0_1 := fun o => keepa o c9_a0_1
  have ac9_a0_2 := fun o => keepa o c9_a0_2
  have ac9_a1_0 := fun o => keepa o c9_a1_0
  have ac9_a1_1 := fun o => keepa o c9_a1_1
  have ac9_a2_0 := fun o => keepa o c9_a2_0
  have ac9_a2_1 := fun o => keepa o c9_a2_1
  have ac9_a3_0 := fun o => keepa o c9_a3_0
  have ac9_a3_1 := fun o => keepa o c9_a3_1
  have ac9_a3_2 := fun o => keepa o c9_a3_2
  have rP0 := P0.out.below hb'; clear P0; have P0 := Lib.hid rP0; clear rP0
  have rP1 := P1.out.below hb'; clear P1; have P1 := Lib.hid rP1; clear rP1
  have rP2 := P2.out.below hb'; clear P2; have P2 := Lib.hid rP2; clear rP2
  have rP3 := P3.out.below hb'; clear P3; have P3 := Lib.hid rP3; clear rP3
  have rFo12 := Fo12.out.below hb'; clear Fo12; have Fo12 := Lib.hid rFo12; clear rFo12
  have rFo14 := Fo14.out.below hb'; clear Fo14; have Fo14 := Lib.hid rFo14; clear rFo14
  have rFo16 := Fo16.out.below hb'; clear Fo16; have Fo16 := Lib.hid rFo16; clear rFo16
  have rFo19 := Fo19.out.below hb'; clear Fo19; have Fo19 := Lib.hid rFo19; clear rFo19
  have rB := below_chain B.out (by omega) hb'; clear B; have B := Lib.hid rB; clear rB
  have Fo25 := Lib.hid q23; clear q23
  have em9 : Below w4.heap.size w4 w9 := below_chain em8 (by omega) hb'
  clear hb hb'
  go_wp2_with fail
  refine hK _ _ ⟨⟨_, em9⟩, rfl⟩ ?_
  clear hK K
  repeat (first | (refine Mix.wpMix_read (by rfl) ?_; go_big_quiet_step (fail); refine wpQuiet_nil ?_) | (refine Mix.wpMix_pure (by rfl) ?_; go_big_quiet_step (fail); refine wpQuiet_nil ?_))
  (refine Mix.wpMix_nil ?_; try simp only [Exit.then])
  clear fx_c4_a0_0
  clear fx_c4_a0_1
  clear fx_c4_a0_2
  clear fx_c4_a1_0
  clear fx_c4_a1_1
  clear fx_c4_a2_0
  clear fx_c4_a2_1
  clear fx_c4_a3_0
  clear fx_c4_a3_1
  clear fx_c4_a3_2
  clear Fo12
  clear Fo14
  clear Fo16
  clear Fo19
  go_wp2_with fail
  refine (toMachine_c _ _ _ _ _ _ _ (by exact (P0.out.rd)) (by omega)).mono ?_
  rintro e w10 ⟨g026, rfl, q10, hb⟩
  have hb' : Below w9.heap.size w9 w10 := (by first | (with_reducible exact hb) | (with_reducible exact up1 hb) | (with_reducible exact up2 hb) | (with_reducible exact up3 hb) | (with_reducible exact up4 hb) | (with_reducible exact below_of_drew hb) | (with_reducible exact below_of_drew (up1 hb)))
  have z10 := hb'.size
  have c10_a0_0 : w10.cell? ⟨w.heap.size, 0, none⟩ = some (.int .i64 sy0) := keepc hb' c9_a0_0
  clear c9_a0_0 ac9_a0_0
  have c10_a0_1 : w10.cell? ⟨w.heap.size, 1, none⟩ = some (.int .i64 st0) := keepc hb' c9_a0_1
  clear c9_a0_1 ac9_a0_1
  have c10_a0_2 : w10.cell? ⟨w.heap.size, 2, none⟩ = some (.slice A0 n0 c0) := keepc hb' c9_a0_2
  clear c9_a0_2 ac9_a0_2
  have c10_a1_0 : w10.cell? ⟨(w.heap.size + 1), 0, none⟩ = some (.int .i64 st1) := keepc hb' c9_a1_0
  clear c9_a1_0 ac9_a1_0
  have c10_a1_1 : w10.cell? ⟨(w.heap.size + 1), 1, none⟩ = some (.slice A1 n1 c1) := keepc hb' c9_a1_1
  clear c9_a1_1 ac9_a1_1
  have c10_a2_0 : w10.cell? ⟨(w.heap.size + 1 + 1), 0, none⟩ = some (.int .i64 st2) := keepc hb' c9_a2_0
  clear c9_a2_0 ac9_a2_0
  have c10_a2_1 : w10.cell? ⟨(w.heap.size + 1 + 1), 1, none⟩ = some (.slice A2 n2 c2) := keepc hb' c9_a2_1
  clear c9_a2_1 ac9_a2_1
  have c10_a3_0 : w10.cell? ⟨(w.heap.size + 1 + 1 + 1), 0, none⟩ = some (.int .i64 st3) := keepc hb' c9_a3_0
  clear c9_a3_0 ac9_a3_0
  have c10_a3_1 : w10.cell? ⟨(w.heap.size + 1 + 1 + 1), 1, none⟩ = some (.slice A3 n3 c3) := keepc hb' c9_a3_1
  clear c9_a3_1 ac9_a3_1
  have c10_a3_2 : w10.cell? ⟨(w.heap.size + 1 + 1 + 1), 2, none⟩ = some (.slice B3 m3 d3) := keepc hb' c9_a3_2
  clear c9_a3_2 ac9_a3_2
  have ac10_a0_0 := fun o => keepa o c10_a0_0
  have ac10_a0_1 := fun o => keepa o c10_a0_1
  have ac10_a0_2 := fun o => keepa o c10_a0_2
  have ac10_a1_0 := fun o => keepa o c10_a1_0
  have ac10_a1_1 := fun o => keepa o c10_a1_1
  have ac10_a2_0 := fun o => keepa o c10_a2_0
  have ac10_a2_1 := fun o => keepa o c10_a2_1
  have ac10_a3_0 := fun o => keepa o c10_a3_0
  have ac10_a3_1 := fun o => keepa o c10_a3_1
  have ac10_a3_2 := fun o => keepa o c10_a3_2
  have rP0 := P0.out.below hb'; clear P0; have P0 := Lib.hid rP0; clear rP0
  have rP1 := P1.out.below hb'; clear P1; have P1 := Lib.hid rP1; clear rP1
  have rP2 := P2.out.below hb'; clear P2; have P2 := Lib.hid rP2; clear rP2
  have rP3 := P3.out.below hb'; clear P3; have P3 := Lib.hid rP3; clear rP3
  have rFo25 := Fo25.out.below hb'; clear Fo25; have Fo25 := Lib.hid rFo25; clear rFo25
  have rB := below_chain B.out (by omega) hb'; clear B; have B := Lib.hid rB; clear rB
  have Fo27 := Lib.hid q10; clear q10
  clear hb hb'
  go_wp2_with fail
  refine (toDfa_c _ _ _ _ _ _ (by exact ((P1.out.1).alloc _)) (by omega)).mono ?_
  rintro e w11 ⟨g28, rfl, q11, hb⟩
  try simp only [World.size_alloc] at q11
  have hb' : Below w10.heap.size w10 w11 := (by first | (with_reducible exact hb) | (with_reducible exact up1 hb) | (with_reducible exact up2 hb) | (with_reducible exact up3 hb) | (with_reducible exact up4 hb) | (with_reducible exact below_of_drew hb) | (with_reducible exact below_of_drew (up1 hb)))
  have z11 := hb'.size
  have c11_a0_0 : w11.cell? ⟨w.heap.size, 0, none⟩ = some (.int .i64 sy0) := keepc hb' c10_a0_0
  clear c10_a0_0 ac10_a0_0
  have c11_a0_1 : w11.cell? ⟨w.heap.size, 1, none⟩ = some (.int .i64 st0) := keepc hb' c10_a0_1
  clear c10_a0_1 ac10_a0_1
  have c11_a0_2 : w11.cell? ⟨w.heap.size, 2, none⟩ = some (.slice A0 n0 c0) := keepc hb' c10_a0_2
  clear c10_a0_2 ac10_a0_2
  have c11_a1_0 : w11.cell? ⟨(w.heap.size + 1), 0, none⟩ = some (.int .i64 st1) := keepc hb' c10_a1_0
  clear c10_a1_0 ac10_a1_0
  have c11_a1_1 : w11.cell? ⟨(w.heap.size + 1), 1, none⟩ = some (.slice A1 n1 c1) := keepc hb' c10_a1_1
  clear c10_a1_1 ac10_a1_1
  have c11_a2_0 : w11.cell? ⟨(w.heap.size + 1 + 1), 0, none⟩ = some (.int .i64 st2) := keepc hb' c10_a2_0
  clear c10_a2_0 ac10_a2_0
  have c11_a2_1 : w11.cell? ⟨(w.heap.size + 1 + 1), 1, none⟩ = some (.slice A2 n2 c2) := keepc hb' c10_a2_1
  clear c10_a2_1 ac10_a2_1
  have c11_a3_0 : w11.cell? ⟨(w.heap.size + 1 + 1 + 1), 0, none⟩ = some (.int .i64 st3) := keepc hb' c10_a3_0
  clear c10_a3_0 ac10_a3_0
  have c11_a3_1 : w11.cell? ⟨(w.heap.size + 1 + 1 + 1), 1, none⟩ = some (.slice A3 n3 c3) := keepc hb' c10_a3_1
  clear c10_a3_1 ac10_a3_1
  have c11_a3_2 : w11.cell? ⟨(w.heap.size + 1 + 1 + 1), 2, none⟩ = some (.slice B3 m3 d3) := keepc hb' c10_a3_2
  clear c10_a3_2 ac10_a3_2
  have c11_o27_0 : w11.cell? ⟨w10.heap.size, 0, none⟩ = some (.int .i64 sy0) := keepc hb (by first | (simp; done) | (rw [World.cell?_alloc_past _ _ _ (by simp <;> omega)]; simp; done) | (rw [World.cell?_alloc_past _ _ _ (by simp <;> omega), World.cell?_alloc_past _ _ _ (by simp <;> omega)]; simp; done) | (rw [World.cell?_alloc_past _ _ _ (by simp <;> omega), World.cell?_alloc_past _ _ _ (by simp <;> omega), World.cell?_alloc_past _ _ _ (by simp <;> omega)]; simp; done) | (rw [World.cell?_alloc_at _ _ _ _ (by simp)]; simp; done) | (rw [World.cell?_alloc_past _ _ _ (by simp <;> omega), World.cell?_alloc_at _ _ _ _ (by simp)]; simp; done) | (rw [World.cell?_alloc_past _ _ _ (by simp <;> omega), World.cell?_alloc_past _ _ _ (by simp <;> omega), World.cell?_alloc_at _ _ _ _ (by simp)]; simp; done) | (rw [World.cell?_alloc_past _ _ _ (by simp <;> omega), World.cell?_alloc_past _ _ _ (by simp <;> omega), World.cell?_alloc_past _ _ _ (by simp <;> omega), World.cell?_alloc_at _ _ _ _ (by simp)]; simp; done))
  have hl_c11_o27_0 : w10.heap.size < w11.heap.size := World.block_lt_of_cell? w11 _ c11_o27_0
  have c11_o27_1 : w11.cell? ⟨w10.heap.size, 1, none⟩ = some (.int .i64 st0) := keepc hb (by first | (simp; done) | (rw [World.cell?_alloc_past _ _ _ (by simp <;> omega)]; simp; done) | (rw [World.cell?_alloc_past _ _ _ (by simp <;> omega), World.cell?_alloc_past _ _ _ (by simp <;> omega)]; simp; done) | (rw [World.cell?_alloc_past _ _ _ (by simp <;> omega), World.cell?_alloc_past _ _ _ (by simp <;> omega), World.cell?_alloc_past _ _ _ (by simp <;> omega)]; simp; done) | (rw [World.cell?_alloc_at _ _ _ _ (by simp)]; simp; done) | (rw [World.cell?_alloc_past _ _ _ (by simp <;> omega), World.cell?_alloc_at _ _ _ _ (by simp)]; simp; done) | (rw [World.cell?_alloc_past _ _ _ (by simp <;> omega), World.cell?_alloc_past _ _ _ (by simp <;> omega), World.cell?_alloc_at _ _ _ _ (by simp)]; simp; done) | (rw [World.cell?_alloc_past _ _ _ (by simp <;> omega), World.cell?_alloc_past _ _ _ (by simp <;> omega), World.cell?_alloc_past _ _ _ (by simp <;> omega), World.cell?_alloc_at _ _ _ _ (by simp)]; simp; done))
  have c11_o27_2 : w11.cell? ⟨w10.heap.size, 2, none⟩ = some (.slice (some ⟨g026, 0, none⟩) n0 n0) := keepc hb (by first | (simp; done) | (rw [World.cell?_alloc_past _ _ _ (by simp <;> omega)]; simp; done) | (rw [World.cell?_alloc_past _ _ _ (by simp <;> omega), World.cell?_alloc_past _ _ _ (by simp <;> omega)]; simp; done) | (rw [World.cell?_alloc_past _ _ _ (by simp <;> omega), World.cell?_alloc_past _ _ _ (by simp <;> omega), World.cell?_alloc_past _ _ _ (by simp <;> omega)]; simp; done) | (rw [World.cell?_alloc_at _ _ _ _ (by simp)]; simp; done) | (rw [World.cell?_alloc_past _ _ _ (by simp <;> omega), World.cell?_alloc_at _ _ _ _ (by simp)]; simp; done) | (rw [World.cell?_alloc_past _ _ _ (by simp <;> omega), World.cell?_alloc_past _ _ _ (by simp <;> omega), World.cell?_alloc_at _ _ _ _ (by simp)]; simp; done) | (rw [World.cell?_alloc_past _ _ _ (by simp <;> omega), World.cell?_alloc_past _ _ _ (by simp <;> omega), World.cell?_alloc_past _ _ _ (by simp <;> omega), World.cell?_alloc_at _ _ _ _ (by simp)]; simp; done))
  have ac11_a0_0 := fun o => keepa o c11_a0_0
  have ac11_a0_1 := fun o => keepa o c11_a0_1
  have ac11_a0_2 := fun o => keepa o c11_a0_2
  have ac11_a1_0 := fun o => keepa o c11_a1_0
  have ac11_a1_1 := fun o => keepa o c11_a1_1
  have ac11_a2_0 := fun o => keepa o c11_a2_0
  have ac11_a2_1 := fun o => keepa o c11_a2_1
  have ac11_a3_0 := fun o => keepa o c11_a3_0
  have ac11_a3_1 := fun o => keepa o c11_a3_1
  have ac11_a3_2 := fun o => keepa o c11_a3_2
  have ac11_o27_0 := fun o => keepa o c11_o27_0
  have ac11_o27_1 := fun o => keepa o c11_o27_1
  have ac11_o27_2 := fun o => keepa o c11_o27_2
  have rP0 := P0.out.below hb'; clear P0; have P0 := Lib.hid rP0; clear rP0
  have rP1 := P1.out.below hb'; clear P1; have P1 := Lib.hid rP1; clear rP1
  have rP2 := P2.out.below hb'; clear P2; have P2 := Lib.hid rP2; clear rP2
  have rP3 := P3.out.below hb'; clear P3; have P3 := Lib.hid rP3; clear rP3
  have rFo25 := Fo25.out.below hb'; clear Fo25; have Fo25 := Lib.hid rFo25; clear rFo25
  have rFo27 := Fo27.out.below hb'; clear Fo27; have Fo27 := Lib.hid rFo27; clear rFo27
  have rB := below_chain B.out (by omega) hb'; clear B; have B := Lib.hid rB; clear rB
  have Fo29 := Lib.hid q11; clear q11
  clear hb hb'
  go_wp2_with fail
  refine (toDfa_c _ _ _ _ _ _ (by exact ((P2.out.1).alloc _)) (by omega)).mono ?_
  rintro e w12 ⟨g30, rfl, q12, hb⟩
  try simp only [World.size_alloc] at q12
  have hb' : Below w11.heap.size w11 w12 := (by first | (with_reducible exact hb) | (with_reducible exact up1 hb) | (with_reducible exact up2 hb) | (with_reducible exact up3 hb) | (with_reducible exact up4 hb) | (with_reducible exact below_of_drew hb) | (with_reducible exact below_of_drew (up1 hb)))
  have z12 := hb'.size
  have c12_a0_0 : w12.cell? ⟨w.heap.size, 0, none⟩ = some (.int .i64 sy0) := keepc hb' c11_a0_0
  clear c11_a0_0 ac11_a0_0
  have c12_a0_1 : w12.cell? ⟨w.heap.size, 1, none⟩ = some (.int .i64 st0) := keepc hb' c11_a0_1
  clear c11_a0_1 ac11_a0_1
  have c12_a0_2 : w12.cell? ⟨w.heap.size, 2, none⟩ = some (.slice A0 n0 c0) := keepc hb' c11_a0_2
  clear c11_a0_2 ac11_a0_2
  have c12_a1_0 : w12.cell? ⟨(w.heap.size + 1), 0, none⟩ = some (.int .i64 st1) := keepc hb' c11_a1_0
  clear c11_a1_0 ac11_a1_0
  have c12_a1_1 : w12.cell? ⟨(w.heap.size + 1), 1, none⟩ = some (.slice A1 n1 c1) := keepc hb' c11_a1_1
  clear c11_a1_1 ac11_a1_1
  have c12_a2_0 : w12.cell? ⟨(w.heap.size + 1 + 1), 0, none⟩ = some (.int .i64 st2) := keepc hb' c11_a2_0
  clear c11_a2_0 ac11_a2_0
  have c12_a2_1 : w12.cell? ⟨(w.heap.size + 1 + 1), 1, none⟩ = some (.slice A2 n2 c2) := keepc hb' c11_a2_1
  clear c11_a2_1 ac11_a2_1
  have c12_a3_0 : w12.cell? ⟨(w.heap.size + 1 + 1 + 1), 0, none⟩ = some (.int .i64 st3) := keepc hb' c11_a3_0
  clear c11_a3_0 ac11_a3_0
  have c12_a3_1 : w12.cell? ⟨(w.heap.size + 1 + 1 + 1), 1, none⟩ = some (.slice A3 n3 c3) := keepc hb' c11_a3_1
  clear c11_a3_1 ac11_a3_1
  have c12_a3_2 : w12.cell? ⟨(w.heap.size + 1 + 1 + 1), 2, none⟩ = some (.slice B3 m3 d3) := keepc hb' c11_a3_2
  clear c11_a3_2 ac11_a3_2
  have c12_o27_0 : w12.cell? ⟨w10.heap.size, 0, none⟩ = some (.int .i64 sy0) := keepc hb' c11_o27_0
  clear c11_o27_0 ac11_o27_0
  have c12_o27_1 : w12.cell? ⟨w10.heap.size, 1, none⟩ = some (.int .i64 st0) := keepc hb' c11_o27_1
  clear c11_o27_1 ac11_o27_1
  have c12_o27_2 : w12.cell? ⟨w10.heap.size, 2, none⟩ = some (.slice (some ⟨g026, 0, none⟩) n0 n0) := keepc hb' c11_o27_2
  clear c11_o27_2 ac11_o27_2
  have c12_o29_0 : w12.cell? ⟨w11.heap.size, 0, none⟩ = some (.int .i64 st1) := keepc hb (by first | (simp; done) | (rw [World.cell?_alloc_past _ _ _ (by simp <;> omega)]; simp; done) | (rw [World.cell?_alloc_past _ _ _ (by simp <;> omega), World.cell?_alloc_past _ _ _ (by simp <;> omega)]; simp; done) | (rw [World.cell?_alloc_past _ _ _ (by simp <;> omega), World.cell?_alloc_past _ _ _ (by simp <;> omega), World.cell?_alloc_past _ _ _ (by simp <;> omega)]; simp; done) | (rw [World.cell?_alloc_at _ _ _ _ (by simp)]; simp; done) | (rw [World.cell?_alloc_past _ _ _ (by simp <;> omega), World.cell?_alloc_at _ _ _ _ (by simp)]; simp; done) | (rw [World.cell?_alloc_past _ _ _ (by simp <;> omega), World.cell?_alloc_past _ _ _ (by simp <;> omega), World.cell?_alloc_at _ _ _ _ (by simp)]; simp; done) | (rw [World.cell?_alloc_past _ _ _ (by simp <;> omega), World.cell?_alloc_past _ _ _ (by simp <;> omega), World.cell?_alloc_past _ _ _ (by simp <;> omega), World.cell?_alloc_at _ _ _ _ (by simp)]; simp; done))
  have hl_c12_o29_0 : w11.heap.size < w12.heap.size := World.block_lt_of_cell? w12 _ c12_o29_0
  have c12_o29_1 : w12.cell? ⟨w11.heap.size, 1, none⟩ = some (.slice (some ⟨g28, 0, none⟩) n1 n1) := keepc hb (by first | (simp; done) | (rw [World.cell?_alloc_past _ _ _ (by simp <;> omega)]; simp; done) | (rw [World.cell?_alloc_past _ _ _ (by simp <;> omega), World.cell?_alloc_past _ _ _ (by simp <;> omega)]; simp; done) | (rw [World.cell?_alloc_past _ _ _ (by simp <;> omega), World.cell?_alloc_past _ _ _ (by simp <;> omega), World.cell?_alloc_past _ _ _ (by simp <;> omega)]; simp; done) | (rw [World.cell?_alloc_at _ _ _ _ (by simp)]; simp; done) | (rw [World.cell?_alloc_past _ _ _ (by simp <;> omega), World.cell?_alloc_at _ _ _ _ (by simp)]; simp; done) | (rw [World.cell?_alloc_past _ _ _ (by simp <;> omega), World.cell?_alloc_past _ _ _ (by simp <;> omega), World.cell?_alloc_at _ _ _ _ (by simp)]; simp; done) | (rw [World.cell?_alloc_past _ _ _ (by simp <;> omega), World.cell?_alloc_past _ _ _ (by simp <;> omega), World.cell?_alloc_past _ _ _ (by simp <;> omega), World.cell?_alloc_at _ _ _ _ (by simp)]; simp; done))
  have ac12_a0_0 := fun o => keepa o c12_a0_0
  have ac12_a0_1 := fun o => keepa o c12_a0_1
  have ac12_a0_2 := fun o => keepa o c12_a0_2
  have ac12_a1_0 := fun o => keepa o c12_a1_0
  have ac12_a1_1 := fun o => keepa o c12_a1_1
  have ac12_a2_0 := fun o => keepa o c12_a2_0
  have ac12_a2_1 := fun o => keepa o c12_a2_1
  have ac12_a3_0 := fun o => keepa o c12_a3_0
  have ac12_a3_1 := fun o => keepa o c12_a3_1
  have ac12_a3_2 := fun o => keepa o c12_a3_2
  have ac12_o27_0 := fun o => keepa o c12_o27_0
  have ac12_o27_1 := fun o => keepa o c12_o27_1
  have ac12_o27_2 := fun o => keepa o c12_o27_2
  have ac12_o29_0 := fun o => keepa o c12_o29_0
  have ac12_o29_1 := fun o => keepa o c12_o29_1
  have rP0 := P0.out.below hb'; clear P0; have P0 := Lib.hid rP0; clear rP0
  have rP1 := P1.out.below hb'; clear P1; have P1 := Lib.hid rP1; clear rP1
  have rP2 := P2.out.below hb'; clear P2; have P2 := Lib.hid rP2; clear rP2
  have rP3 := P3.out.below hb'; clear P3; have P3 := Lib.hid rP3; clear rP3
  have rFo25 := Fo25.out.below hb'; clear Fo25; have Fo25 := Lib.hid rFo25; clear rFo25
  have rFo27 := Fo27.out.below hb'; clear Fo27; have Fo27 := Lib.hid rFo27; clear rFo27
  have rFo29 := Fo29.out.below hb'; clear Fo29; have Fo29 := Lib.hid rFo29; clear rFo29
  have rB := below_chain B.out (by omega) hb'; clear B; have B := Lib.hid rB; clear rB
  have Fo31 := Lib.hid q12; clear q12
  clear hb hb'
  go_wp2_with fail
  refine (toConfig_c _ _ _ _ _ _ _ _ _ _ (by exact ((P3.out.rd).alloc _)) (by omega) (by omega)).mono ?_
  rintro e w13 ⟨g032, g133, rfl, q13, hb⟩
  try simp only [World.size_alloc] at q13
  have hb' : Below w12.heap.size w12 w13 := (by first | (with_reducible exact hb) | (with_reducible exact up1 hb) | (with_reducible exact up2 hb) | (with_reducible exact up3 hb) | (with_reducible exact up4 hb) | (with_reducible exact below_of_drew hb) | (with_reducible exact below_of_drew (up1 hb)))
  have z13 := hb'.size
  have c13_a0_0 : w13.cell? ⟨w.heap.size, 0, none⟩ = some (.int .i64 sy0) := keepc hb' c12_a0_0
  clear c12_a0_0 ac12_a0_0
  have c13_a0_1 : w13.cell? ⟨w.heap.size, 1, none⟩ = some (.int .i64 st0) := keepc hb' c12_a0_1
  clear c12_a0_1 ac12_a0_1
  have c13_a0_2 : w13.cell? ⟨w.heap.size, 2, none⟩ = some (.slice A0 n0 c0) := keepc hb' c12_a0_2
  clear c12_a0_2 ac12_a0_2
  have c13_a1_0 : w13.cell? ⟨(w.heap.size + 1), 0, none⟩ = some (.int .i64 st1) := keepc hb' c12_a1_0
  clear c12_a1_0 ac12_a1_0
  have c13_a1_1 : w13.cell? ⟨(w.heap.size + 1), 1, none⟩ = some (.slice A1 n1 c1) := keepc hb' c12_a1_1
  clear c12_a1_1 ac12_a1_1
  have c13_a2_0 : w13.cell? ⟨(w.heap.size + 1 + 1), 0, none⟩ = some (.int .i64 st2) := keepc hb' c12_a2_0
  clear c12_a2_0 ac12_a2_0
  have c13_a2_1 : w13.cell? ⟨(w.heap.size + 1 + 1), 1, none⟩ = some (.slice A2 n2 c2) := keepc hb' c12_a2_1
  clear c12_a2_1 ac12_a2_1
  have c13_a3_0 : w13.cell? ⟨(w.heap.size + 1 + 1 + 1), 0, none⟩ = some (.int .i64 st3) := keepc hb' c12_a3_0
  clear c12_a3_0 ac12_a3_0
  have c13_a3_1 : w13.cell? ⟨(w.heap.size + 1 + 1 + 1), 1, none⟩ = some (.slice A3 n3 c3) := keepc hb' c12_a3_1
  clear c12_a3_1 ac12_a3_1
  have c13_a3_2 : w13.cell? ⟨(w.heap.size + 1 + 1 + 1), 2, none⟩ = some (.slice B3 m3 d3) := keepc hb' c12_a3_2
  clear c12_a3_2 ac12_a3_2
  have c13_o27_0 : w13.cell? ⟨w10.heap.size, 0, none⟩ = some (.int .i64 sy0) := keepc hb' c12_o27_0
  clear c12_o27_0 ac12_o27_0
  have c13_o27_1 : w13.cell? ⟨w10.heap.size, 1, none⟩ = some (.int .i64 st0) := keepc hb' c12_o27_1
  clear c12_o27_1 ac12_o27_1
  have c13_o27_2 : w13.cell? ⟨w10.heap.size, 2, none⟩ = some (.slice (some ⟨g026, 0, none⟩) n0 n0) := keepc hb' c12_o27_2
  clear c12_o27_2 ac12_o27_2
  have c13_o29_0 : w13.cell? ⟨w11.heap.size, 0, none⟩ = some (.int .i64 st1) := keepc hb' c12_o29_0
  clear c12_o29_0 ac12_o29_0
  have c13_o29_1 : w13.cell? ⟨w11.heap.size, 1, none⟩ = some (.slice (some ⟨g28, 0, none⟩) n1 n1) := keepc hb' c12_o29_1
  clear c12_o29_1 ac12_o29_1
  have c13_o31_0 : w13.cell? ⟨w12.heap.size, 0, none⟩ = some (.int .i64 st2) := keepc hb (by first | (simp; done) | (rw [World.cell?_alloc_past _ _ _ (by simp <;> omega)]; simp; done) | (rw [World.cell?_alloc_past _ _ _ (by simp <;> omega), World.cell?_alloc_past _ _ _ (by simp <;> omega)]; simp; done) | (rw [World.cell?_alloc_past _ _ _ (by simp <;> omega), World.cell?_alloc_past _ _ _ (by simp <;> omega), World.cell?_alloc_past _ _ _ (by simp <;> omega)]; simp; done) | (rw [World.cell?_alloc_at _ _ _ _ (by simp)]; simp; done) | (rw [World.cell?_alloc_past _ _ _ (by simp <;> omega), World.cell?_alloc_at _ _ _ _ (by simp)]; simp; done) | (rw [World.cell?_alloc_past _ _ _ (by simp <;> omega), World.cell?_alloc_past _ _ _ (by simp <;> omega), World.cell?_alloc_at _ _ _ _ (by simp)]; simp; done) | (rw [World.cell?_alloc_past _ _ _ (by simp <;> omega), World.cell?_alloc_past _ _ _ (by simp <;> omega), World.cell?_alloc_past _ _ _ (by simp <;> omega), World.cell?_alloc_at _ _ _ _ (by simp)]; simp; done))
  have hl_c13_o31_0 : w12.heap.size < w13.heap.size := World.block_lt_of_cell? w13 _ c13_o31_0
  have c13_o31_1 : w13.cell? ⟨w12.heap.size, 1, none⟩ = some (.slice (some ⟨g30, 0, none⟩) n2 n2) := keepc hb (by first | (simp; done) | (rw [World.cell?_alloc_past _ _ _ (by simp <;> omega)]; simp; done) | (rw [World.cell?_alloc_past _ _ _ (by simp <;> omega), World.cell?_alloc_past _ _ _ (by simp <;> omega)]; simp; done) | (rw [World.cell?_alloc_past _ _ _ (by simp <;> omega), World.cell?_alloc_past _ _ _ (by simp <;> omega), World.cell?_alloc_past _ _ _ (by simp <;> omega)]; simp; done) | (rw [World.cell?_alloc_at _ _ _ _ (by simp)]; simp; done) | (rw [World.cell?_alloc_past _ _ _ (by simp <;> omega), World.cell?_alloc_at _ _ _ _ (by simp)]; simp; done) | (rw [World.cell?_alloc_past _ _ _ (by simp <;> omega), World.cell?_alloc_past _ _ _ (by simp <;> omega), World.cell?_alloc_at _ _ _ _ (by simp)]; simp; done) | (rw [World.cell?_alloc_past _ _ _ (by simp <;> omega), World.cell?_alloc_past _ _ _ (by simp <;> omega), World.cell?_alloc_past _ _ _ (by simp <;> omega), World.cell?_alloc_at _ _ _ _ (by simp)]; simp; done))
  have ac13_a0_0 := fun o => keepa o c13_a0_0
  have ac13_a0_1 := fun o => keepa o c13_a0_1
  have ac13_a0_2 := fun o => keepa o c13_a0_2
  have ac13_a1_0 := fun o => keepa o c13_a1_0
  have ac13_a1_1 := fun o => keepa o c13_a1_1
  have ac13_a2_0 := fun o => keepa o c13_a2_0
  have ac13_a2_1 := fun o => keepa o c13_a2_1
  have ac13_a3_0 := fun o => keepa o c13_a3_0
  have ac13_a3_1 := fun o => keepa o c13_a3_1
  have ac13_a3_2 := fun o => keepa o c13_a3_2
  have ac13_o27_0 := fun o => keepa o c13_o27_0
  have ac13_o27_1 := fun o => keepa o c13_o27_1
  have ac13_o27_2 := fun o => keepa o c13_o27_2
  have ac13_o29_0 := fun o => keepa o c13_o29_0
  have ac13_o29_1 := fun o => keepa o c13_o29_1
  have ac13_o31_0 := fun o => keepa o c13_o31_0
  have ac13_o31_1 := fun o => keepa o c13_o31_1
  have rP0 := P0.out.below hb'; clear P0; have P0 := Lib.hid rP0; clear rP0
  have rP1 := P1.out.below hb'; clear P1; have P1 := Lib.hid rP1; clear rP1
  have rP2 := P2.out.below hb'; clear P2; have P2 := Lib.hid rP2; clear rP2
  have rP3 := P3.out.below hb'; clear P3; have P3 := Lib.hid rP3; clear rP3
  have rFo25 := Fo25.out.below hb'; clear Fo25; have Fo25 := Lib.hid rFo25; clear rFo25
  have rFo27 := Fo27.out.below hb'; clear Fo27; have Fo27 := Lib.hid rFo27; clear rFo27
  have rFo29 := Fo29.out.below hb'; clear Fo29; have Fo29 := Lib.hid rFo29; clear rFo29
  have rFo31 := Fo31.out.below hb'; clear Fo31; have Fo31 := Lib.hid rFo31; clear rFo31
  have rB := below_chain B.out (by omega) hb'; clear B; have B := Lib.hid rB; clear rB
  have Fo34 := Lib.hid q13; clear q13
  clear hb hb'
  go_wp2_with fail
  refine (iAbstractOf_c _ _ _ _ _ _ _ _ _ _ _ _ _ _ _ _ _ _ _ _ _ _ _ _ _ _ (by exact ((Fo27.out.rd).alloc _)) (by exact ((Fo29.out.rdI).alloc _)) (by exact ((Fo31.out.rdI).alloc _)) (by exact ((Fo34.out.rd).alloc _)) (by omega) (by omega) (by omega) (by omega) (by omega) (Nat.le_refl _)).mono ?_
  rintro e w14 ⟨A35, n36, c37, rfl, q38, l39, hb⟩
  try simp only [World.size_alloc] at q38
  have hb' : Below w13.heap.size w13 w14 := (by first | (with_reducible exact hb) | (with_reducible exact up1 hb) | (with_reducible exact up2 hb) | (with_reducible exact up3 hb) | (with_reducible exact up4 hb) | (with_reducible exact below_of_drew hb) | (with_reducible exact below_of_drew (up1 hb)))
  have z14 := hb'.size
  have c14_a0_0 : w14.cell? ⟨w.heap.size, 0, none⟩ = some (.int .i64 sy0) := keepc hb' c13_a0_0
  clear c13_a0_0 ac13_a0_0
  have c14_a0_1 : w14.cell? ⟨w.heap.size, 1, none⟩ = some (.int .i64 st0) := keepc hb' c13_a0_1
  clear c13_a0_1 ac13_a0_1
  have c14_a0_2 : w14.cell? ⟨w.heap.size, 2, none⟩ = some (.slice A0 n0 c0) := keepc hb' c13_a0_2
  clear c13_a0_2 ac13_a0_2
  have c14_a1_0 : w14.cell? ⟨(w.heap.size + 1), 0, none⟩ = some (.int .i64 st1) := keepc hb' c13_a1_0
  clear c13_a1_0 ac13_a1_0
  have c14_a1_1 : w14.cell? ⟨(w.heap.size + 1), 1, none⟩ = some (.slice A1 n1 c1) := keepc hb' c13_a1_1
  clear c13_a1_1 ac13_a1_1
  have c14_a2_0 : w14.cell? ⟨(w.heap.size + 1 + 1), 0, none⟩ = some (.int .i64 st2) := keepc hb' c13_a2_0
  clear c13_a2_0 ac13_a2_0
  have c14_a2_1 : w14.cell? ⟨(w.heap.size + 1 + 1), 1, none⟩ = some (.slice A2 n2 c2) := keepc hb' c13_a2_1
  clear c13_a2_1 ac13_a2_1
  have c14_a3_0 : w14.cell? ⟨(w.heap.size + 1 + 1 + 1), 0, none⟩ = some (.int .i64 st3) := keepc hb' c13_a3_0
  clear c13_a3_0 ac13_a3_0
  have c14_a3_1 : w14.cell? ⟨(w.heap.size + 1 + 1 + 1), 1, none⟩ = some (.slice A3 n3 c3) := keepc hb' c13_a3_1
  clear c13_a3_1 ac13_a3_1
  have c14_a3_2 : w14.cell? ⟨(w.heap.size + 1 + 1 + 1), 2, none⟩ = some (.slice B3 m3 d3) := keepc hb' c13_a3_2
  clear c13_a3_2 ac13_a3_2
  have c14_o27_0 : w14.cell? ⟨w10.heap.size, 0, none⟩ = some (.int .i64 sy0) := keepc hb' c13_o27_0
  clear c13_o27_0 ac13_o27_0
  have c14_o27_1 : w14.cell? ⟨w10.heap.size, 1, none⟩ = some (.int .i64 st0) := keepc hb' c13_o27_1
  clear c13_o27_1 ac13_o27_1
  have c14_o27_2 : w14.cell? ⟨w10.heap.size, 2, none⟩ = some (.slice (some ⟨g026, 0, none⟩) n0 n0) := keepc hb' c13_o27_2
  clear c13_o27_2 ac13_o27_2
  have c14_o29_0 : w14.cell? ⟨w11.heap.size, 0, none⟩ = some (.int .i64 st1) := keepc hb' c13_o29_0
  clear c13_o29_0 ac13_o29_0
  have c14_o29_1 : w14.cell? ⟨w11.heap.size, 1, none⟩ = some (.slice (some ⟨g28, 0, none⟩) n1 n1) := keepc hb' c13_o29_1
  clear c13_o29_1 ac13_o29_1
  have c14_o31_0 : w14.cell? ⟨w12.heap.size, 0, none⟩ = some (.int .i64 st2) := keepc hb' c13_o31_0
  clear c13_o31_0 ac13_o31_0
  have c14_o31_1 : w14.cell? ⟨w12.heap.size, 1, none⟩ = some (.slice (some ⟨g30, 0, none⟩) n2 n2) := keepc hb' c13_o31_1
  clear c13_o31_1 ac13_o31_1
  have c14_o34_0 : w14.cell? ⟨w13.heap.size, 0, none⟩ = some (.int .i64 st3) := keepc hb (by first | (simp; done) | (rw [World.cell?_alloc_past _ _ _ (by simp <;> omega)]; simp; done) | (rw [World.cell?_alloc_past _ _ _ (by simp <;> omega), World.cell?_alloc_past _ _ _ (by simp <;> omega)]; simp; done) | (rw [World.cell?_alloc_past _ _ _ (by simp <;> omega), World.cell?_alloc_past _ _ _ (by simp <;> omega), World.cell?_alloc_past _ _ _ (by simp <;> omega)]; simp; done) | (rw [World.cell?_alloc_at _ _ _ _ (by simp)]; simp; done) | (rw [World.cell?_alloc_past _ _ _ (by simp <;> omega), World.cell?_alloc_at _ _ _ _ (by simp)]; simp; done) | (rw [World.cell?_alloc_past _ _ _ (by simp <;> omega), World.cell?_alloc_past _ _ _ (by simp <;> omega), World.cell?_alloc_at _ _ _ _ (by simp)]; simp; done) | (rw [World.cell?_alloc_past _ _ _ (by simp <;> omega), World.cell?_alloc_past _ _ _ (by simp <;> omega), World.cell?_alloc_past _ _ _ (by simp <;> omega), World.cell?_alloc_at _ _ _ _ (by simp)]; simp; done))
  have hl_c14_o34_0 : w13.heap.size < w14.heap.size := World.block_lt_of_cell? w14 _ c14_o34_0
  have c14_o34_1 : w14.cell? ⟨w13.heap.size, 1, none⟩ = some (.slice (some ⟨g032, 0, none⟩) n3 n3) := keepc hb (by first | (simp; done) | (rw [World.cell?_alloc_past _ _ _ (by simp <;> omega)]; simp; done) | (rw [World.cell?_alloc_past _ _ _ (by simp <;> omega), World.cell?_alloc_past _ _ _ (by simp <;> omega)]; simp; done) | (rw [World.cell?_alloc_past _ _ _ (by simp <;> omega), World.cell?_alloc_past _ _ _ (by simp <;> omega), World.cell?_alloc_past _ _ _ (by simp <;> omega)]; simp; done) | (rw [World.cell?_alloc_at _ _ _ _ (by simp)]; simp; done) | (rw [World.cell?_alloc_past _ _ _ (by simp <;> omega), World.cell?_alloc_at _ _ _ _ (by simp)]; simp; done) | (rw [World.cell?_alloc_past _ _ _ (by simp <;> omega), World.cell?_alloc_past _ _ _ (by simp <;> omega), World.cell?_alloc_at _ _ _ _ (by simp)]; simp; done) | (rw [World.cell?_alloc_past _ _ _ (by simp <;> omega), World.cell?_alloc_past _ _ _ (by simp <;> omega), World.cell?_alloc_past _ _ _ (by simp <;> omega), World.cell?_alloc_at _ _ _ _ (by simp)]; simp; done))
  have c14_o34_2 : w14.cell? ⟨w13.heap.size, 2, none⟩ = some (.slice (some ⟨g133, 0, none⟩) m3 m3) := keepc hb (by first | (simp; done) | (rw [World.cell?_alloc_past _ _ _ (by simp <;> omega)]; simp; done) | (rw [World.cell?_alloc_past _ _ _ (by simp <;> omega), World.cell?_alloc_past _ _ _ (by simp <;> omega)]; simp; done) | (rw [World.cell?_alloc_past _ _ _ (by simp <;> omega), World.cell?_alloc_past _ _ _ (by simp <;> omega), World.cell?_alloc_past _ _ _ (by simp <;> omega)]; simp; done) | (rw [World.cell?_alloc_at _ _ _ _ (by simp)]; simp; done) | (rw [World.cell?_alloc_past _ _ _ (by simp <;> omega), World.cell?_alloc_at _ _ _ _ (by simp)]; simp; done) | (rw [World.cell?_alloc_past _ _ _ (by simp <;> omega), World.cell?_alloc_past _ _ _ (by simp <;> omega), World.cell?_alloc_at _ _ _ _ (by simp)]; simp; done) | (rw [World.cell?_alloc_past _ _ _ (by simp <;> omega), World.cell?_alloc_past _ _ _ (by simp <;> omega), World.cell?_alloc_past _ _ _ (by simp <;> omega), World.cell?_alloc_at _ _ _ _ (by simp)]; simp; done))
  have ac14_a0_0 := fun o => keepa o c14_a0_0
  have ac14_a0_1 := fun o => keepa o c14_a0_1
  have ac14_a0_2 := fun o => keepa o c14_a0_2
  have ac14_a1_0 := fun o => keepa o c14_a1_0
  have ac14_a1_1 := fun o => keepa o c14_a1_1
  have ac14_a2_0 := fun o => keepa o c14_a2_0
  have ac14_a2_1 := fun o => keepa o c14_a2_1
  have ac14_a3_0 := fun o => keepa o c14_a3_0
  have ac14_a3_1 := fun o => keepa o c14_a3_1
  have ac14_a3_2 := fun o => keepa o c14_a3_2
  have ac14_o27_0 := fun o => keepa o c14_o27_0
  have ac14_o27_1 := fun o => keepa o c14_o27_1
  have ac14_o27_2 := fun o => keepa o c14_o27_2
  have ac14_o29_0 := fun o => keepa o c14_o29_0
  have ac14_o29_1 := fun o => keepa o c14_o29_1
  have ac14_o31_0 := fun o => keepa o c14_o31_0
  have ac14_o31_1 := fun o => keepa o c14_o31_1
  have ac14_o34_0 := fun o => keepa o c14_o34_0
  have ac14_o34_1 := fun o => keepa o c14_o34_1
  have ac14_o34_2 := fun o => keepa o c14_o34_2
  have rP0 := P0.out.below hb'; clear P0; have P0 := Lib.hid rP0; clear rP0
  have rP1 := P1.out.below hb'; clear P1; have P1 := Lib.hid rP1; clear rP1
  have rP2 := P2.out.below hb'; clear P2; have P2 := Lib.hid rP2; clear rP2
  have rP3 := P3.out.below hb'; clear P3; have P3 := Lib.hid rP3; clear rP3
  have rFo25 := Fo25.out.below hb'; clear Fo25; have Fo25 := Lib.hid rFo25; clear rFo25
  have rFo27 := Fo27.out.below hb'; clear Fo27; have Fo27 := Lib.hid rFo27; clear rFo27
  have rFo29 := Fo29.out.below hb'; clear Fo29; have Fo29 := Lib.hid rFo29; clear rFo29
  have rFo31 := Fo31.out.below hb'; clear Fo31; have Fo31 := Lib.hid rFo31; clear rFo31
  have rFo34 := Fo34.out.below hb'; clear Fo34; have Fo34 := Lib.hid rFo34; clear rFo34
  have rB := below_chain B.out (by omega) hb'; clear B; have B := Lib.hid rB; clear rB
  have Fo40 := Lib.hid q38; clear q38
  clear hb hb'
  go_wp2_with fail
  refine (eqInt64S_t _ _ _ _ _ _ _ _ (by exact (Fo40.out.rdI)) (by exact (Fo25.out.rdI)) (by omega)).mono ?_
  rintro e w15 ⟨rfl, hb⟩
  have hb' : Below w14.heap.size w14 w15 := (by first | (with_reducible exact hb) | (with_reducible exact up1 hb) | (with_reducible exact up2 hb) | (with_reducible exact up3 hb) | (with_reducible exact up4 hb) | (with_reducible exact below_of_drew hb) | (with_reducible exact below_of_drew (up1 hb)))
  have z15 := hb'.size
  have c15_a0_0 : w15.cell? ⟨w.heap.size, 0, none⟩ = some (.int .i64 sy0) := keepc hb' c14_a0_0
  clear c14_a0_0 ac14_a0_0
  have c15_a0_1 : w15.cell? ⟨w.heap.size, 1, none⟩ = some (.int .i64 st0) := keepc hb' c14_a0_1
  clear c14_a0_1 ac14_a0_1
  have c15_a0_2 : w15.cell? ⟨w.heap.size, 2, none⟩ = some (.slice A0 n0 c0) := keepc hb' c14_a0_2
  clear c14_a0_2 ac14_a0_2
  have c15_a1_0 : w15.cell? ⟨(w.heap.size + 1), 0, none⟩ = some (.int .i64 st1) := keepc hb' c14_a1_0
  clear c14_a1_0 ac14_a1_0
  have c15_a1_1 : w15.cell? ⟨(w.heap.size + 1), 1, none⟩ = some (.slice A1 n1 c1) := keepc hb' c14_a1_1
  clear c14_a1_1 ac14_a1_1
  have c15_a2_0 : w15.cell? ⟨(w.heap.size + 1 + 1), 0, none⟩ = some (.int .i64 st2) := keepc hb' c14_a2_0
  clear c14_a2_0 ac14_a2_0
  have c15_a2_1 : w15.cell? ⟨(w.heap.size + 1 + 1), 1, none⟩ = some (.slice A2 n2 c2) := keepc hb' c14_a2_1
  clear c14_a2_1 ac14_a2_1
  have c15_a3_0 : w15.cell? ⟨(w.heap.size + 1 + 1 + 1), 0, none⟩ = some (.int .i64 st3) := keepc hb' c14_a3_0
  clear c14_a3_0 ac14_a3_0
  have c15_a3_1 : w15.cell? ⟨(w.heap.size + 1 + 1 + 1), 1, none⟩ = some (.slice A3 n3 c3) := keepc hb' c14_a3_1
  clear c14_a3_1 ac14_a3_1
  have c15_a3_2 : w15.cell? ⟨(w.heap.size + 1 + 1 + 1), 2, none⟩ = some (.slice B3 m3 d3) := keepc hb' c14_a3_2
  clear c14_a3_2 ac14_a3_2
  have c15_o27_0 : w15.cell? ⟨w10.heap.size, 0, none⟩ = some (.int .i64 sy0) := keepc hb' c14_o27_0
  clear c14_o27_0 ac14_o27_0
  have c15_o27_1 : w15.cell? ⟨w10.heap.size, 1, none⟩ = some (.int .i64 st0) := keepc hb' c14_o27_1
  clear c14_o27_1 ac14_o27_1
  have c15_o27_2 : w15.cell? ⟨w10.heap.size, 2, none⟩ = some (.slice (some ⟨g026, 0, none⟩) n0 n0) := keepc hb' c14_o27_2
  clear c14_o27_2 ac14_o27_2
  have c15_o29_0 : w15.cell? ⟨w11.heap.size, 0, none⟩ = some (.int .i64 st1) := keepc hb' c14_o29_0
  clear c14_o29_0 ac14_o29_0
  have c15_o29_1 : w15.cell? ⟨w11.heap.size, 1, none⟩ = some (.slice (some ⟨g28, 0, none⟩) n1 n1) := keepc hb' c14_o29_1
  clear c14_o29_1 ac14_o29_1
  have c15_o31_0 : w15.cell? ⟨w12.heap.size, 0, none⟩ = some (.int .i64 st2) := keepc hb' c14_o31_0
  clear c14_o31_0 ac14_o31_0
  have c15_o31_1 : w15.cell? ⟨w12.heap.size, 1, none⟩ = some (.slice (some ⟨g30, 0, none⟩) n2 n2) := keepc hb' c14_o31_1
  clear c14_o31_1 ac14_o31_1
  have c15_o34_0 : w15.cell? ⟨w13.heap.size, 0, none⟩ = some (.int .i64 st3) := keepc hb' c14_o34_0
  clear c14_o34_0 ac14_o34_0
  have c15_o34_1 : w15.cell? ⟨w13.heap.size, 1, none⟩ = some (.slice (some ⟨g032, 0, none⟩) n3 n3) := keepc hb' c14_o34_1
  clear c14_o34_1 ac14_o34_1
  have c15_o34_2 : w15.cell? ⟨w13.heap.size, 2, none⟩ = some (.slice (some ⟨g133, 0, none⟩) m3 m3) := keepc hb' c14_o34_2
  clear c14_o34_2 ac14_o34_2
  have ac15_a0_0 := fun o => keepa o c15_a0_0
  have ac15_a0_1 := fun o => keepa o c15_a0_1
  have ac15_a0_2 := fun o => keepa o c15_a0_2
  have ac15_a1_0 := fun o => keepa o c15_a1_0
  have ac15_a1_1 := fun o => keepa o c15_a1_1
  have ac15_a2_0 := fun o => keepa o c15_a2_0
  have ac15_a2_1 := fun o => keepa o c15_a2_1
  have ac15_a3_0 := fun o => keepa o c15_a3_0
  have ac15_a3_1 := fun o => keepa o c15_a3_1
  have ac15_a3_2 := fun o => keepa o c15_a3_2
  have ac15_o27_0 := fun o => keepa o c15_o27_0
  have ac15_o27_1 := fun o => keepa o c15_o27_1
  have ac15_o27_2 := fun o => keepa o c15_o27_2
  have ac15_o29_0 := fun o => keepa o c15_o29_0
  have ac15_o29_1 := fun o => keepa o c15_o29_1
  have ac15_o31_0 := fun o => keepa o c15_o31_0
  have ac15_o31_1 := fun o => keepa o c15_o31_1
  have ac15_o34_0 := fun o => keepa o c15_o34_0
  have ac15_o34_1 := fun o => keepa o c15_o34_1
  have ac15_o34_2 := fun o => keepa o c15_o34_2
  have rP0 := P0.out.below hb'; clear P0; have P0 := Lib.hid rP0; clear rP0
  have rP1 := P1.out.below hb'; clear P1; have P1 := Lib.hid rP1; clear rP1
  have rP2 := P2.out.below hb'; clear P2; have P2 := Lib.hid rP2; clear rP2
  have rP3 := P3.out.below hb'; clear P3; have P3 := Lib.hid rP3; clear rP3
  have rFo25 := Fo25.out.below hb'; clear Fo25; have Fo25 := Lib.hid rFo25; clear rFo25
  have rFo27 := Fo27.out.below hb'; clear Fo27; have Fo27 := Lib.hid rFo27; clear rFo27
  have rFo29 := Fo29.out.below hb'; clear Fo29; have Fo29 := Lib.hid rFo29; clear rFo29
  have rFo31 := Fo31.out.below hb'; clear Fo31; have Fo31 := Lib.hid rFo31; clear rFo31
  have rFo34 := Fo34.out.below hb'; clear Fo34; have Fo34 := Lib.hid rFo34; clear rFo34
  have rFo40 := Fo40.out.below hb'; clear Fo40; have Fo40 := Lib.hid rFo40; clear rFo40
  have rB := below_chain B.out (by omega) hb'; clear B; have B := Lib.hid rB; clear rB
  clear hb hb'
  go_wp2_with fail
  have fx_c15_a0_0 := Ext.cell c15_a0_0
  have fx_c15_a0_1 := Ext.cell c15_a0_1
  have fx_c15_a0_2 := Ext.cell c15_a0_2
  have fx_c15_a1_0 := Ext.cell c15_a1_0
  have fx_c15_a1_1 := Ext.cell c15_a1_1
  have fx_c15_a2_0 := Ext.cell c15_a2_0
  have fx_c15_a2_1 := Ext.cell c15_a2_1
  have fx_c15_a3_0 := Ext.cell c15_a3_0
  have fx_c15_a3_1 := Ext.cell c15_a3_1
  have fx_c15_a3_2 := Ext.cell c15_a3_2
  have fx_c15_o27_0 := Ext.cell c15_o27_0
  have fx_c15_o27_1 := Ext.cell c15_o27_1
  have fx_c15_o27_2 := Ext.cell c15_o27_2
  have fx_c15_o29_0 := Ext.cell c15_o29_0
  have fx_c15_o29_1 := Ext.cell c15_o29_1
  have fx_c15_o31_0 := Ext.cell c15_o31_0
  have fx_c15_o31_1 := Ext.cell c15_o31_1
  have fx_c15_o34_0 := Ext.cell c15_o34_0
  have fx_c15_o34_1 := Ext.cell c15_o34_1
  have fx_c15_o34_2 := Ext.cell c15_o34_2
  refine Mix.wp_region_mix [3, 3, 1, 1, 0] (fun w' => ∃ x : Ext w15, w' = x.w) (by kernel_rfl) (by kernel_rfl) (InExt.drew _) ?_
  repeat (first | (refine Mix.wpMix_read (by rfl) ?_; go_big_quiet_step (fail); refine wpQuiet_nil ?_) | (refine Mix.wpMix_pure (by rfl) ?_; go_big_quiet_step (fail); refine wpQuiet_nil ?_))
  refine Mix.wpMix_chg (by rfl) (fun K hK => ?_)
  go_wp2_with fail
  refine (toMachine_c _ _ _ _ _ _ _ (by exact (P0.out.rd)) (by omega)).mono ?_
  rintro e w16 ⟨g041, rfl, q16, hb⟩
  have hb' : Below w15.heap.size w15 w16 := (by first | (with_reducible exact hb) | (with_reducible exact up1 hb) | (with_reducible exact up2 hb) | (with_reducible exact up3 hb) | (with_reducible exact up4 hb) | (with_reducible exact below_of_drew hb) | (with_reducible exact below_of_drew (up1 hb)))
  have z16 := hb'.size
  have c16_a0_0 : w16.cell? ⟨w.heap.size, 0, none⟩ = some (.int .i64 sy0) := keepc hb' c15_a0_0
  clear c15_a0_0 ac15_a0_0
  have c16_a0_1 : w16.cell? ⟨w.heap.size, 1, none⟩ = some (.int .i64 st0) := keepc hb' c15_a0_1
  clear c15_a0_1 ac15_a0_1
  have c16_a0_2 : w16.cell? ⟨w.heap.size, 2, none⟩ = some (.slice A0 n0 c0) := keepc hb' c15_a0_2
  clear c15_a0_2 ac15_a0_2
  have c16_a1_0 : w16.cell? ⟨(w.heap.size + 1), 0, none⟩ = some (.int .i64 st1) := keepc hb' c15_a1_0
  clear c15_a1_0 ac15_a1_0
  have c16_a1_1 : w16.cell? ⟨(w.heap.size + 1), 1, none⟩ = some (.slice A1 n1 c1) := keepc hb' c15_a1_1
  clear c15_a1_1 ac15_a1_1
  have c16_a2_0 : w16.cell? ⟨(w.heap.size + 1 + 1), 0, none⟩ = some (.int .i64 st2) := keepc hb' c15_a2_0
  clear c15_a2_0 ac15_a2_0
  have c16_a2_1 : w16.cell? ⟨(w.heap.size + 1 + 1), 1, none⟩ = some (.slice A2 n2 c2) := keepc hb' c15_a2_1
  clear c15_a2_1 ac15_a2_1
  have c16_a3_0 : w16.cell? ⟨(w.heap.size + 1 + 1 + 1), 0, none⟩ = some (.int .i64 st3) := keepc hb' c15_a3_0
  clear c15_a3_0 ac15_a3_0
  have c16_a3_1 : w16.cell? ⟨(w.heap.size + 1 + 1 + 1), 1, none⟩ = some (.slice A3 n3 c3) := keepc hb' c15_a3_1
  clear c15_a3_1 ac15_a3_1
  have c16_a3_2 : w16.cell? ⟨(w.heap.size + 1 + 1 + 1), 2, none⟩ = some (.slice B3 m3 d3) := keepc hb' c15_a3_2
  clear c15_a3_2 ac15_a3_2
  have c16_o27_0 : w16.cell? ⟨w10.heap.size, 0, none⟩ = some (.int .i64 sy0) := keepc hb' c15_o27_0
  clear c15_o27_0 ac15_o27_0
  have c16_o27_1 : w16.cell? ⟨w10.heap.size, 1, none⟩ = some (.int .i64 st0) := keepc hb' c15_o27_1
  clear c15_o27_1 ac15_o27_1
  have c16_o27_2 : w16.cell? ⟨w10.heap.size, 2, none⟩ = some (.slice (some ⟨g026, 0, none⟩) n0 n0) := keepc hb' c15_o27_2
  clear c15_o27_2 ac15_o27_2
  have c16_o29_0 : w16.cell? ⟨w11.heap.size, 0, none⟩ = some (.int .i64 st1) := keepc hb' c15_o29_0
  clear c15_o29_0 ac15_o29_0
  have c16_o29_1 : w16.cell? ⟨w11.heap.size, 1, none⟩ = some (.slice (some ⟨g28, 0, none⟩) n1 n1) := keepc hb' c15_o29_1
  clear c15_o29_1 ac15_o29_1
  have c16_o31_0 : w16.cell? ⟨w12.heap.size, 0, none⟩ = some (.int .i64 st2) := keepc hb' c15_o31_0
  clear c15_o31_0 ac15_o31_0
  have c16_o31_1 : w16.cell? ⟨w12.heap.size, 1, none⟩ = some (.slice (some ⟨g30, 0, none⟩) n2 n2) := keepc hb' c15_o31_1
  clear c15_o31_1 ac15_o31_1
  have c16_o34_0 : w16.cell? ⟨w13.heap.size, 0, none⟩ = some (.int .i64 st3) := keepc hb' c15_o34_0
  clear c15_o34_0 ac15_o34_0
  have c16_o34_1 : w16.cell? ⟨w13.heap.size, 1, none⟩ = some (.slice (some ⟨g032, 0, none⟩) n3 n3) := keepc hb' c15_o34_1
  clear c15_o34_1 ac15_o34_1
  have c16_o34_2 : w16.cell? ⟨w13.heap.size, 2, none⟩ = some (.slice (some ⟨g133, 0, none⟩) m3 m3) := keepc hb' c15_o34_2
  clear c15_o34_2 ac15_o34_2
  have ac16_a0_0 := fun o => keepa o c16_a0_0
  have ac16_a0_1 := fun o => keepa o c16_a0_1
  have ac16_a0_2 := fun o => keepa o c16_a0_2
  have ac16_a1_0 := fun o => keepa o c16_a1_0
  have ac16_a1_1 := fun o => keepa o c16_a1_1
  have ac16_a2_0 := fun o => keepa o c16_a2_0
  have ac16_a2_1 := fun o => keepa o c16_a2_1
  have ac16_a3_0 := fun o => keepa o c16_a3_0
  have ac16_a3_1 := fun o => keepa o c16_a3_1
  have ac16_a3_2 := fun o => keepa o c16_a3_2
  have ac16_o27_0 := fun o => keepa o c16_o27_0
  have ac16_o27_1 := fun o => keepa o c16_o27_1
  have ac16_o27_2 := fun o => keepa o c16_o27_2
  have ac16_o29_0 := fun o => keepa o c16_o29_0
  have ac16_o29_1 := fun o => keepa o c16_o29_1
  have ac16_o31_0 := fun o => keepa o c16_o31_0
  have ac16_o31_1 := fun o => keepa o c16_o31_1
  have ac16_o34_0 := fun o => keepa o c16_o34_0
  have ac16_o34_1 := fun o => keepa o c16_o34_1
  have ac16_o34_2 := fun o => keepa o c16_o34_2
  have rP0 := P0.out.below hb'; clear P0; have P0 := Lib.hid rP0; clear rP0
  have rP1 := P1.out.below hb'; clear P1; have P1 := Lib.hid rP1; clear rP1
  have rP2 := P2.out.below hb'; clear P2; have P2 := Lib.hid rP2; clear rP2
  have rP3 := P3.out.below hb'; clear P3; have P3 := Lib.hid rP3; clear rP3
  have rFo25 := Fo25.out.below hb'; clear Fo25; have Fo25 := Lib.hid rFo25; clear rFo25
  have rFo27 := Fo27.out.below hb'; clear Fo27; have Fo27 := Lib.hid rFo27; clear rFo27
  have rFo29 := Fo29.out.below hb'; clear Fo29; have Fo29 := Lib.hid rFo29; clear rFo29
  have rFo31 := Fo31.out.below hb'; clear Fo31; have Fo31 := Lib.hid rFo31; clear rFo31
  have rFo34 := Fo34.out.below hb'; clear Fo34; have Fo34 := Lib.hid rFo34; clear rFo34
  have rFo40 := Fo40.out.below hb'; clear Fo40; have Fo40 := Lib.hid rFo40; clear rFo40
  have rB := below_chain B.out (by omega) hb'; clear B; have B := Lib.hid rB; clear rB
  have Fo42 := Lib.hid q16; clear q16
  have em16 : Below w15.heap.size w15 w16 := hb'
  clear hb hb'
  go_wp2_with fail
  refine hK _ _ ⟨⟨_, em16⟩, rfl⟩ ?_
  clear hK K
  refine Mix.wpMix_chg (by rfl) (fun K hK => ?_)
  go_wp2_with fail
  refine (eqMachine_t _ _ _ _ _ _ _ _ _ _ (by exact (Fo27.out.rd)) (by exact (Fo42.out.rd)) (by omega)).mono ?_
  rintro e w17 ⟨rfl, hb⟩
  have hb' : Below w16.heap.size w16 w17 := (by first | (with_reducible exact hb) | (with_reducible exact up1 hb) | (with_reducible exact up2 hb) | (with_reducible exact up3 hb) | (with_reducible exact up4 hb) | (with_reducible exact below_of_drew hb) | (with_reducible exact below_of_drew (up1 hb)))
  have z17 := hb'.size
  have c17_a0_0 : w17.cell? ⟨w.heap.size, 0, none⟩ = some (.int .i64 sy0) := keepc hb' c16_a0_0
  clear c16_a0_0 ac16_a0_0
  have c17_a0_1 : w17.cell? ⟨w.heap.size, 1, none⟩ = some (.int .i64 st0) := keepc hb' c16_a0_1
  clear c16_a0_1 ac16_a0_1
  have c17_a0_2 : w17.cell? ⟨w.heap.size, 2, none⟩ = some (.slice A0 n0 c0) := keepc hb' c16_a0_2
  clear c16_a0_2 ac16_a0_2
  have c17_a1_0 : w17.cell? ⟨(w.heap.size + 1), 0, none⟩ = some (.int .i64 st1) := keepc hb' c16_a1_0
  clear c16_a1_0 ac16_a1_0
  have c17_a1_1 : w17.cell? ⟨(w.heap.size + 1), 1, none⟩ = some (.slice A1 n1 c1) := keepc hb' c16_a1_1
  clear c16_a1_1 ac16_a1_1
  have c17_a2_0 : w17.cell? ⟨(w.heap.size + 1 + 1), 0, none⟩ = some (.int .i64 st2) := keepc hb' c16_a2_0
  clear c16_a2_0 ac16_a2_0
  have c17_a2_1 : w17.cell? ⟨(w.heap.size + 1 + 1), 1, none⟩ = some (.slice A2 n2 c2) := keepc hb' c16_a2_1
  clear c16_a2_1 ac16_a2_1
  have c17_a3_0 : w17.cell? ⟨(w.heap.size + 1 + 1 + 1), 0, none⟩ = some (.int .i64 st3) := keepc hb' c16_a3_0
  clear c16_a3_0 ac16_a3_0
  have c17_a3_1 : w17.cell? ⟨(w.heap.size + 1 + 1 + 1), 1, none⟩ = some (.slice A3 n3 c3) := keepc hb' c16_a3_1
  clear c16_a3_1 ac16_a3_1
  have c17_a3_2 : w17.cell? ⟨(w.heap.size + 1 + 1 + 1), 2, none⟩ = some (.slice B3 m3 d3) := keepc hb' c16_a3_2
  clear c16_a3_2 ac16_a3_2
  have c17_o27_0 : w17.cell? ⟨w10.heap.size, 0, none⟩ = some (.int .i64 sy0) := keepc hb' c16_o27_0
  clear c16_o27_0 ac16_o27_0
  have c17_o27_1 : w17.cell? ⟨w10.heap.size, 1, none⟩ = some (.int .i64 st0) := keepc hb' c16_o27_1
  clear c16_o27_1 ac16_o27_1
  have c17_o27_2 : w17.cell? ⟨w10.heap.size, 2, none⟩ = some (.slice (some ⟨g026, 0, none⟩) n0 n0) := keepc hb' c16_o27_2
  clear c16_o27_2 ac16_o27_2
  have c17_o29_0 : w17.cell? ⟨w11.heap.size, 0, none⟩ = some (.int .i64 st1) := keepc hb' c16_o29_0
  clear c16_o29_0 ac16_o29_0
  have c17_o29_1 : w17.cell? ⟨w11.heap.size, 1, none⟩ = some (.slice (some ⟨g28, 0, none⟩) n1 n1) := keepc hb' c16_o29_1
  clear c16_o29_1 ac16_o29_1
  have c17_o31_0 : w17.cell? ⟨w12.heap.size, 0, none⟩ = some (.int .i64 st2) := keepc hb' c16_o31_0
  clear c16_o31_0 ac16_o31_0
  have c17_o31_1 : w17.cell? ⟨w12.heap.size, 1, none⟩ = some (.slice (some ⟨g30, 0, none⟩) n2 n2) := keepc hb' c16_o31_1
  clear c16_o31_1 ac16_o31_1
  have c17_o34_0 : w17.cell? ⟨w13.heap.size, 0, none⟩ = some (.int .i64 st3) := keepc hb' c16_o34_0
  clear c16_o34_0 ac16_o34_0
  have c17_o34_1 : w17.cell? ⟨w13.heap.size, 1, none⟩ = some (.slice (some ⟨g032, 0, none⟩) n3 n3) := keepc hb' c16_o34_1
  clear c16_o34_1 ac16_o34_1
  have c17_o34_2 : w17.cell? ⟨w13.heap.size, 2, none⟩ = some (.slice (some ⟨g133, 0, none⟩) m3 m3) := keepc hb' c16_o34_2
  clear c16_o34_2 ac16_o34_2
  have ac17_a0_0 := fun o => keepa o c17_a0_0
  have ac17_a0_1 := fun o => keepa o c17_a0_1
  have ac17_a0_2 := fun o => keepa o c17_a0_2
  have ac17_a1_0 := fun o => keepa o c17_a1_0
  have ac17_a1_1 := fun o => keepa o c17_a1_1
  have ac17_a2_0 := fun o => keepa o c17_a2_0
  have ac17_a2_1 := fun o => keepa o c17_a2_1
  have ac17_a3_0 := fun o => keepa o c17_a3_0
  have ac17_a3_1 := fun o => keepa o c17_a3_1
  have ac17_a3_2 := fun o => keepa o c17_a3_2
  have ac17_o27_0 := fun o => keepa o c17_o27_0
  have ac17_o27_1 := fun o => keepa o c17_o27_1
  have ac17_o27_2 := fun o => keepa o c17_o27_2
  have ac17_o29_0 := fun o => keepa o c17_o29_0
  have ac17_o29_1 := fun o => keepa o c17_o29_1
  have ac17_o31_0 := fun o => keepa o c17_o31_0
  have ac17_o31_1 := fun o => keepa o c17_o31_1
  have ac17_o34_0 := fun o => keepa o c17_o34_0
  have ac17_o34_1 := fun o => keepa o c17_o34_1
  have ac17_o34_2 := fun o => keepa o c17_o34_2
  have rP0 := P0.out.below hb'; clear P0; have P0 := Lib.hid rP0; clear rP0
  have rP1 := P1.out.below hb'; clear P1; have P1 := Lib.hid rP1; clear rP1
  have rP2 := P2.out.below hb'; clear P2; have P2 := Lib.hid rP2; clear rP2
  have rP3 := P3.out.below hb'; clear P3; have P3 := Lib.hid rP3; clear rP3
  have rFo25 := Fo25.out.below hb'; clear Fo25; have Fo25 := Lib.hid rFo25; clear rFo25
  have rFo27 := Fo27.out.below hb'; clear Fo27; have Fo27 := Lib.hid rFo27; clear rFo27
  have rFo29 := Fo29.out.below hb'; clear Fo29; have Fo29 := Lib.hid rFo29; clear rFo29
  have rFo31 := Fo31.out.below hb'; clear Fo31; have Fo31 := Lib.hid rFo31; clear rFo31
  have rFo34 := Fo34.out.below hb'; clear Fo34; have Fo34 := Lib.hid rFo34; clear rFo34
  have rFo40 := Fo40.out.below hb'; clear Fo40; have Fo40 := Lib.hid rFo40; clear rFo40
  have rFo42 := Fo42.out.below hb'; clear Fo42; have Fo42 := Lib.hid rFo42; clear rFo42
  have rB := below_chain B.out (by omega) hb'; clear B; have B := Lib.hid rB; clear rB
  have em17 : Below w15.heap.size w15 w17 := below_chain em16 (by omega) hb'
  clear hb hb'
  go_wp2_with fail
  refine hK _ _ ⟨⟨_, em17⟩, rfl⟩ ?_
  clear hK K
  repeat (first | (refine Mix.wpMix_read (by rfl) ?_; go_big_quiet_step (fail); refine wpQuiet_nil ?_) | (refine Mix.wpMix_pure (by rfl) ?_; go_big_quiet_step (fail); refine wpQuiet_nil ?_))
  (refine Mix.wpMix_nil ?_; try simp only [Exit.then])
  clear fx_c15_a0_0
  clear fx_c15_a0_1
  clear fx_c15_a0_2
  clear fx_c15_a1_0
  clear fx_c15_a1_1
  clear fx_c15_a2_0
  clear fx_c15_a2_1
  clear fx_c15_a3_0
  clear fx_c15_a3_1
  clear fx_c15_a3_2
  clear fx_c15_o27_0
  clear fx_c15_o27_1
  clear fx_c15_o27_2
  clear fx_c15_o29_0
  clear fx_c15_o29_1
  clear fx_c15_o31_0
  clear fx_c15_o31_1
  clear fx_c15_o34_0
  clear fx_c15_o34_1
  clear fx_c15_o34_2
  clear Fo42
  go_wp2_with fail
  have fx_c17_a0_0 := Ext.cell c17_a0_0
  have fx_c17_a0_1 := Ext.cell c17_a0_1
  have fx_c17_a0_2 := Ext.cell c17_a0_2
  have fx_c17_a1_0 := Ext.cell c17_a1_0
  have fx_c17_a1_1 := Ext.cell c17_a1_1
  have fx_c17_a2_0 := Ext.cell c17_a2_0
  have fx_c17_a2_1 := Ext.cell c17_a2_1
  have fx_c17_a3_0 := Ext.cell c17_a3_0
  have fx_c17_a3_1 := Ext.cell c17_a3_1
  have fx_c17_a3_2 := Ext.cell c17_a3_2
  have fx_c17_o27_0 := Ext.cell c17_o27_0
  have fx_c17_o27_1 := Ext.cell c17_o27_1
  have fx_c17_o27_2 := Ext.cell c17_o27_2
  have fx_c17_o29_0 := Ext.cell c17_o29_0
  have fx_c17_o29_1 := Ext.cell c17_o29_1
  have fx_c17_o31_0 := Ext.cell c17_o31_0
  have fx_c17_o31_1 := Ext.cell c17_o31_1
  have fx_c17_o34_0 := Ext.cell c17_o34_0
  have fx_c17_o34_1 := Ext.cell c17_o34_1
  have fx_c17_o34_2 := Ext.cell c17_o34_2
  refine Mix.wp_region_mix [3, 3, 1, 1, 0] (fun w' => ∃ x : Ext w17, w' = x.w) (by kernel_rfl) (by kernel_rfl) (InExt.drew _) ?_
  repeat (first | (refine Mix.wpMix_read (by rfl) ?_; go_big_quiet_step (fail); refine wpQuiet_nil ?_) | (refine Mix.wpMix_pure (by rfl) ?_; go_big_quiet_step (fail); refine wpQuiet_nil ?_))
  refine Mix.wpMix_chg (by rfl) (fun K hK => ?_)
  go_wp2_with fail
  refine (toDfa_c _ _ _ _ _ _ (by exact (P1.out.1)) (by omega)).mono ?_
  rintro e w18 ⟨g43, rfl, q18, hb⟩
  have hb' : Below w17.heap.size w17 w18 := (by first | (with_reducible exact hb) | (with_reducible exact up1 hb) | (with_reducible exact up2 hb) | (with_reducible exact up3 hb) | (with_reducible exact up4 hb) | (with_reducible exact below_of_drew hb) | (with_reducible exact below_of_drew (up1 hb)))
  have z18 := hb'.size
  have c18_a0_0 : w18.cell? ⟨w.heap.size, 0, none⟩ = some (.int .i64 sy0) := keepc hb' c17_a0_0
  clear c17_a0_0 ac17_a0_0
  have c18_a0_1 : w18.cell? ⟨w.heap.size, 1, none⟩ = some (.int .i64 st0) := keepc hb' c17_a0_1
  clear c17_a0_1 ac17_a0_1
  have c18_a0_2 : w18.cell? ⟨w.heap.size, 2, none⟩ = some (.slice A0 n0 c0) := keepc hb' c17_a0_2
  clear c17_a0_2 ac17_a0_2
  have c18_a1_0 : w18.cell? ⟨(w.heap.size + 1), 0, none⟩ = some (.int .i64 st1) := keepc hb' c17_a1_0
  clear c17_a1_0 ac17_a1_0
  have c18_a1_1 : w18.cell? ⟨(w.heap.size + 1), 1, none⟩ = some (.slice A1 n1 c1) := keepc hb' c17_a1_1
  clear c17_a1_1 ac17_a1_1
  have c18_a2_0 : w18.cell? ⟨(w.heap.size + 1 + 1), 0, none⟩ = some (.int .i64 st2) := keepc hb' c17_a2_0
  clear c17_a2_0 ac17_a2_0
  have c18_a2_1 : w18.cell? ⟨(w.heap.size + 1 + 1), 1, none⟩ = some (.slice A2 n2 c2) := keepc hb' c17_a2_1
  clear c17_a2_1 ac17_a2_1
  have c18_a3_0 : w18.cell? ⟨(w.heap.size + 1 + 1 + 1), 0, none⟩ = some (.int .i64 st3) := keepc hb' c17_a3_0
  clear c17_a3_0 ac17_a3_0
  have c18_a3_1 : w18.cell? ⟨(w.heap.size + 1 + 1 + 1), 1, none⟩ = some (.slice A3 n3 c3) := keepc hb' c17_a3_1
  clear c17_a3_1 ac17_a3_1
  have c18_a3_2 : w18.cell? ⟨(w.heap.size + 1 + 1 + 1), 2, none⟩ = some (.slice B3 m3 d3) := keepc hb' c17_a3_2
  clear c17_a3_2 ac17_a3_2
  have c18_o27_0 : w18.cell? ⟨w10.heap.size, 0, none⟩ = some (.int .i64 sy0) := keepc hb' c17_o27_0
  clear c17_o27_0 ac17_o27_0
  have c18_o27_1 : w18.cell? ⟨w10.heap.size, 1, none⟩ = some (.int .i64 st0) := keepc hb' c17_o27_1
  clear c17_o27_1 ac17_o27_1
  have c18_o27_2 : w18.cell? ⟨w10.heap.size, 2, none⟩ = some (.slice (some ⟨g026, 0, none⟩) n0 n0) := keepc hb' c17_o27_2
  clear c17_o27_2 ac17_o27_2
  have c18_o29_0 : w18.cell? ⟨w11.heap.size, 0, none⟩ = some (.int .i64 st1) := keepc hb' c17_o29_0
  clear c17_o29_0 ac17_o29_0
  have c18_o29_1 : w18.cell? ⟨w11.heap.size, 1, none⟩ = some (.slice (some ⟨g28, 0, none⟩) n1 n1) := keepc hb' c17_o29_1
  clear c17_o29_1 ac17_o29_1
  have c18_o31_0 : w18.cell? ⟨w12.heap.size, 0, none⟩ = some (.int .i64 st2) := keepc hb' c17_o31_0
  clear c17_o31_0 ac17_o31_0
  have c18_o31_1 : w18.cell? ⟨w12.heap.size, 1, none⟩ = some (.slice (some ⟨g30, 0, none⟩) n2 n2) := keepc hb' c17_o31_1
  clear c17_o31_1 ac17_o31_1
  have c18_o34_0 : w18.cell? ⟨w13.heap.size, 0, none⟩ = some (.int .i64 st3) := keepc hb' c17_o34_0
  clear c17_o34_0 ac17_o34_0
  have c18_o34_1 : w18.cell? ⟨w13.heap.size, 1, none⟩ = some (.slice (some ⟨g032, 0, none⟩) n3 n3) := keepc hb' c17_o34_1
  clear c17_o34_1 ac17_o34_1
  have c18_o34_2 : w18.cell? ⟨w13.heap.size, 2, none⟩ = some (.slice (some ⟨g133, 0, none⟩) m3 m3) := keepc hb' c17_o34_2
  clear c17_o34_2 ac17_o34_2
  have ac18_a0_0 := fun o => keepa o c18_a0_0
  have ac18_a0_1 := fun o => keepa o c18_a0_1
  have ac18_a0_2 := fun o => keepa o c18_a0_2
  have ac18_a1_0 := fun o => keepa o c18_a1_0
  have ac18_a1_1 := fun o => keepa o c18_a1_1
  have ac18_a2_0 := fun o => keepa o c18_a2_0
  have ac18_a2_1 := fun o => keepa o c18_a2_1
  have ac18_a3_0 := fun o => keepa o c18_a3_0
  have ac18_a3_1 := fun o => keepa o c18_a3_1
  have ac18_a3_2 := fun o => keepa o c18_a3_2
  have ac18_o27_0 := fun o => keepa o c18_o27_0
  have ac18_o27_1 := fun o => keepa o c18_o27_1
  have ac18_o27_2 := fun o => keepa o c18_o27_2
  have ac18_o29_0 := fun o => keepa o c18_o29_0
  have ac18_o29_1 := fun o => keepa o c18_o29_1
  have ac18_o31_0 := fun o => keepa o c18_o31_0
  have ac18_o31_1 := fun o => keepa o c18_o31_1
  have ac18_o34_0 := fun o => keepa o c18_o34_0
  have ac18_o34_1 := fun o => keepa o c18_o34_1
  have ac18_o34_2 := fun o => keepa o c18_o34_2
  have rP0 := P0.out.below hb'; clear P0; have P0 := Lib.hid rP0; clear rP0
  have rP1 := P1.out.below hb'; clear P1; have P1 := Lib.hid rP1; clear rP1
  have rP2 := P2.out.below hb'; clear P2; have P2 := Lib.hid rP2; clear rP2
  have rP3 := P3.out.below hb'; clear P3; have P3 := Lib.hid rP3; clear rP3
  have rFo25 := Fo25.out.below hb'; clear Fo25; have Fo25 := Lib.hid rFo25; clear rFo25
  have rFo27 := Fo27.out.below hb'; clear Fo27; have Fo27 := Lib.hid rFo27; clear rFo27
  have rFo29 := Fo29.out.below hb'; clear Fo29; have Fo29 := Lib.hid rFo29; clear rFo29
  have rFo31 := Fo31.out.below hb'; clear Fo31; have Fo31 := Lib.hid rFo31; clear rFo31
  have rFo34 := Fo34.out.below hb'; clear Fo34; have Fo34 := Lib.hid rFo34; clear rFo34
  have rFo40 := Fo40.out.below hb'; clear Fo40; have Fo40 := Lib.hid rFo40; clear rFo40
  have rB := below_chain B.out (by omega) hb'; clear B; have B := Lib.hid rB; clear rB
  have Fo44 := Lib.hid q18; clear q18
  have em18 : Below w17.heap.size w17 w18 := hb'
  clear hb hb'
  go_wp2_with fail
  refine hK _ _ ⟨⟨_, em18⟩, rfl⟩ ?_
  clear hK K
  refine Mix.wpMix_chg (by rfl) (fun K hK => ?_)
  go_wp2_with fail
  refine (eqDfa_t _ _ _ _ _ _ _ _ _ (by exact (Fo29.out.rdI)) (by exact (Fo44.out.rdI)) (by omega)).mono ?_
  rintro e w19 ⟨rfl, hb⟩
  have hb' : Below w18.heap.size w18 w19 := (by first | (with_reducible exact hb) | (with_reducible exact up1 hb) | (with_reducible exact up2 hb) | (with_reducible exact up3 hb) | (with_reducible exact up4 hb) | (with_reducible exact below_of_drew hb) | (with_reducible exact below_of_drew (up1 hb)))
  have z19 := hb'.size
  have c19_a0_0 : w19.cell? ⟨w.heap.size, 0, none⟩ = some (.int .i64 sy0) := keepc hb' c18_a0_0
  clear c18_a0_0 ac18_a0_0
  have c19_a0_1 : w19.cell? ⟨w.heap.size, 1, none⟩ = some (.int .i64 st0) := keepc hb' c18_a0_1
  clear c18_a0_1 ac18_a0_1
  have c19_a0_2 : w19.cell? ⟨w.heap.size, 2, none⟩ = some (.slice A0 n0 c0) := keepc hb' c18_a0_2
  clear c18_a0_2 ac18_a0_2
  have c19_a1_0 : w19.cell? ⟨(w.heap.size + 1), 0, none⟩ = some (.int .i64 st1) := keepc hb' c18_a1_0
  clear c18_a1_0 ac18_a1_0
  have c19_a1_1 : w19.cell? ⟨(w.heap.size + 1), 1, none⟩ = some (.slice A1 n1 c1) := keepc hb' c18_a1_1
  clear c18_a1_1 ac18_a1_1
  have c19_a2_0 : w19.cell? ⟨(w.heap.size + 1 + 1), 0, none⟩ = some (.int .i64 st2) := keepc hb' c18_a2_0
  clear c18_a2_0 ac18_a2_0
  have c19_a2_1 : w19.cell? ⟨(w.heap.size + 1 + 1), 1, none⟩ = some (.slice A2 n2 c2) := keepc hb' c18_a2_1
  clear c18_a2_1 ac18_a2_1
  have c19_a3_0 : w19.cell? ⟨(w.heap.size + 1 + 1 + 1), 0, none⟩ = some (.int .i64 st3) := keepc hb' c18_a3_0
  clear c18_a3_0 ac18_a3_0
  have c19_a3_1 : w19.cell? ⟨(w.heap.size + 1 + 1 + 1), 1, none⟩ = some (.slice A3 n3 c3) := keepc hb' c18_a3_1
  clear c18_a3_1 ac18_a3_1
  have c19_a3_2 : w19.cell? ⟨(w.heap.size + 1 + 1 + 1), 2, none⟩ = some (.slice B3 m3 d3) := keepc hb' c18_a3_2
  clear c18_a3_2 ac18_a3_2
  have c19_o27_0 : w19.cell? ⟨w10.heap.size, 0, none⟩ = some (.int .i64 sy0) := keepc hb' c18_o27_0
  clear c18_o27_0 ac18_o27_0
  have c19_o27_1 : w19.cell? ⟨w10.heap.size, 1, none⟩ = some (.int .i64 st0) := keepc hb' c18_o27_1
  clear c18_o27_1 ac18_o27_1
  have c19_o27_2 : w19.cell? ⟨w10.heap.size, 2, none⟩ = some (.slice (some ⟨g026, 0, none⟩) n0 n0) := keepc hb' c18_o27_2
  clear c18_o27_2 ac18_o27_2
  have c19_o29_0 : w19.cell? ⟨w11.heap.size, 0, none⟩ = some (.int .i64 st1) := keepc hb' c18_o29_0
  clear c18_o29_0 ac18_o29_0
  have c19_o29_1 : w19.cell? ⟨w11.heap.size, 1, none⟩ = some (.slice (some ⟨g28, 0, none⟩) n1 n1) := keepc hb' c18_o29_1
  clear c18_o29_1 ac18_o29_1
  have c19_o31_0 : w19.cell? ⟨w12.heap.size, 0, none⟩ = some (.int .i64 st2) := keepc hb' c18_o31_0
  clear c18_o31_0 ac18_o31_0
  have c19_o31_1 : w19.cell? ⟨w12.heap.size, 1, none⟩ = some (.slice (some ⟨g30, 0, none⟩) n2 n2) := keepc hb' c18_o31_1
  clear c18_o31_1 ac18_o31_1
  have c19_o34_0 : w19.cell? ⟨w13.heap.size, 0, none⟩ = some (.int .i64 st3) := keepc hb' c18_o34_0
  clear c18_o34_0 ac18_o34_0
  have c19_o34_1 : w19.cell? ⟨w13.heap.size, 1, none⟩ = some (.slice (some ⟨g032, 0, none⟩) n3 n3) := keepc hb' c18_o34_1
  clear c18_o34_1 ac18_o34_1
  have c19_o34_2 : w19.cell? ⟨w13.heap.size, 2, none⟩ = some (.slice (some ⟨g133, 0, none⟩) m3 m3) := keepc hb' c18_o34_2
  clear c18_o34_2 ac18_o34_2
  have ac19_a0_0 := fun o => keepa o c19_a0_0
  have ac19_a0_1 := fun o => keepa o c19_a0_1
  have ac19_a0_2 := fun o => keepa o c19_a0_2
  have ac19_a1_0 := fun o => keepa o c19_a1_0
  have ac19_a1_1 := fun o => keepa o c19_a1_1
  have ac19_a2_0 := fun o => keepa o c19_a2_0
  have ac19_a2_1 := fun o => keepa o c19_a2_1
  have ac19_a3_0 := fun o => keepa o c19_a3_0
  have ac19_a3_1 := fun o => keepa o c19_a3_1
  have ac19_a3_2 := fun o => keepa o c19_a3_2
  have ac19_o27_0 := fun o => keepa o c19_o27_0
  have ac19_o27_1 := fun o => keepa o c19_o27_1
  have ac19_o27_2 := fun o => keepa o c19_o27_2
  have ac19_o29_0 := fun o => keepa o c19_o29_0
  have ac19_o29_1 := fun o => keepa o c19_o29_1
  have ac19_o31_0 := fun o => keepa o c19_o31_0
  have ac19_o31_1 := fun o => keepa o c19_o31_1
  have ac19_o34_0 := fun o => keepa o c19_o34_0
  have ac19_o34_1 := fun o => keepa o c19_o34_1
  have ac19_o34_2 := fun o => keepa o c19_o34_2
  have rP0 := P0.out.below hb'; clear P0; have P0 := Lib.hid rP0; clear rP0
  have rP1 := P1.out.below hb'; clear P1; have P1 := Lib.hid rP1; clear rP1
  have rP2 := P2.out.below hb'; clear P2; have P2 := Lib.hid rP2; clear rP2
  have rP3 := P3.out.below hb'; clear P3; have P3 := Lib.hid rP3; clear rP3
  have rFo25 := Fo25.out.below hb'; clear Fo25; have Fo25 := Lib.hid rFo25; clear rFo25
  have rFo27 := Fo27.out.below hb'; clear Fo27; have Fo27 := Lib.hid rFo27; clear rFo27
  have rFo29 := Fo29.out.below hb'; clear Fo29; have Fo29 := Lib.hid rFo29; clear rFo29
  have rFo31 := Fo31.out.below hb'; clear Fo31; have Fo31 := Lib.hid rFo31; clear rFo31
  have rFo34 := Fo34.out.below hb'; clear Fo34; have Fo34 := Lib.hid rFo34; clear rFo34
  have rFo40 := Fo40.out.below hb'; clear Fo40; have Fo40 := Lib.hid rFo40; clear rFo40
  have rFo44 := Fo44.out.below hb'; clear Fo44; have Fo44 := Lib.hid rFo44; clear rFo44
  have rB := below_chain B.out (by omega) hb'; clear B; have B := Lib.hid rB; clear rB
  have em19 : Below w17.heap.size w17 w19 := below_chain em18 (by omega) hb'
  clear hb hb'
  go_wp2_with fail
  refine hK _ _ ⟨⟨_, em19⟩, rfl⟩ ?_
  clear hK K
  repeat (first | (refine Mix.wpMix_read (by rfl) ?_; go_big_quiet_step (fail); refine wpQuiet_nil ?_) | (refine Mix.wpMix_pure (by rfl) ?_; go_big_quiet_step (fail); refine wpQuiet_nil ?_))
  (refine Mix.wpMix_nil ?_; try simp only [Exit.then])
  clear fx_c17_a0_0
  clear fx_c17_a0_1
  clear fx_c17_a0_2
  clear fx_c17_a1_0
  clear fx_c17_a1_1
  clear fx_c17_a2_0
  clear fx_c17_a2_1
  clear fx_c17_a3_0
  clear fx_c17_a3_1
  clear fx_c17_a3_2
  clear fx_c17_o27_0
  clear fx_c17_o27_1
  clear fx_c17_o27_2
  clear fx_c17_o29_0
  clear fx_c17_o29_1
  clear fx_c17_o31_0
  clear fx_c17_o31_1
  clear fx_c17_o34_0
  clear fx_c17_o34_1
  clear fx_c17_o34_2
  clear Fo44
  go_wp2_with fail
  have fx_c19_a0_0 := Ext.cell c19_a0_0
  have fx_c19_a0_1 := Ext.cell c19_a0_1
  have fx_c19_a0_2 := Ext.cell c19_a0_2
  have fx_c19_a1_0 := Ext.cell c19_a1_0
  have fx_c19_a1_1 := Ext.cell c19_a1_1
  have fx_c19_a2_0 := Ext.cell c19_a2_0
  have fx_c19_a2_1 := Ext.cell c19_a2_1
  have fx_c19_a3_0 := Ext.cell c19_a3_0
  have fx_c19_a3_1 := Ext.cell c19_a3_1
  have fx_c19_a3_2 := Ext.cell c19_a3_2
  have fx_c19_o27_0 := Ext.cell c19_o27_0
  have fx_c19_o27_1 := Ext.cell c19_o27_1
  have fx_c19_o27_2 := Ext.cell c19_o27_2
  have fx_c19_o29_0 := Ext.cell c19_o29_0
  have fx_c19_o29_1 := Ext.cell c19_o29_1
  have fx_c19_o31_0 := Ext.cell c19_o31_0
  have fx_c19_o31_1 := Ext.cell c19_o31_1
  have fx_c19_o34_0 := Ext.cell c19_o34_0
  have fx_c19_o34_1 := Ext.cell c19_o34_1
  have fx_c19_o34_2 := Ext.cell c19_o34_2
  refine Mix.wp_region_mix [3, 3, 1, 1, 0] (fun w' => ∃ x : Ext w19, w' = x.w) (by kernel_rfl) (by kernel_rfl) (InExt.drew _) ?_
  repeat (first | (refine Mix.wpMix_read (by rfl) ?_; go_big_quiet_step (fail); refine wpQuiet_nil ?_) | (refine Mix.wpMix_pure (by rfl) ?_; go_big_quiet_step (fail); refine wpQuiet_nil ?_))
  refine Mix.wpMix_chg (by rfl) (fun K hK => ?_)
  go_wp2_with fail
  refine (toDfa_c _ _ _ _ _ _ (by exact (P2.out.1)) (by omega)).mono ?_
  rintro e w20 ⟨g45, rfl, q20, hb⟩
  have hb' : Below w19.heap.size w19 w20 := (by first | (with_reducible exact hb) | (with_reducible exact up1 hb) | (with_reducible exact up2 hb) | (with_reducible exact up3 hb) | (with_reducible exact up4 hb) | (with_reducible exact below_of_drew hb) | (with_reducible exact below_of_drew (up1 hb)))
  have z20 := hb'.size
  have c20_a0_0 : w20.cell? ⟨w.heap.size, 0, none⟩ = some (.int .i64 sy0) := keepc hb' c19_a0_0
  clear c19_a0_0 ac19_a0_0
  have c20_a0_1 : w20.cell? ⟨w.heap.size, 1, none⟩ = some (.int .i64 st0) := keepc hb' c19_a0_1
  clear c19_a0_1 ac19_a0_1
  have c20_a0_2 : w20.cell? ⟨w.heap.size, 2, none⟩ = some (.slice A0 n0 c0) := keepc hb' c19_a0_2
  clear c19_a0_2 ac19_a0_2
  have c20_a1_0 : w20.cell? ⟨(w.heap.size + 1), 0, none⟩ = some (.int .i64 st1) := keepc hb' c19_a1_0
  clear c19_a1_0 ac19_a1_0
  have c20_a1_1 : w20.cell? ⟨(w.heap.size + 1), 1, none⟩ = some (.slice A1 n1 c1) := keepc hb' c19_a1_1
  clear c19_a1_1 ac19_a1_1
  have c20_a2_0 : w20.cell? ⟨(w.heap.size + 1 + 1), 0, none⟩ = some (.int .i64 st2) := keepc hb' c19_a2_0
  clear c19_a2_0 ac19_a2_0
  have c20_a2_1 : w20.cell? ⟨(w.heap.size + 1 + 1), 1, none⟩ = some (.slice A2 n2 c2) := keepc hb' c19_a2_1
  clear c19_a2_1 ac19_a2_1
  have c20_a3_0 : w20.cell? ⟨(w.heap.size + 1 + 1 + 1), 0, none⟩ = some (.int .i64 st3) := keepc hb' c19_a3_0
  clear c19_a3_0 ac19_a3_0
  have c20_a3_1 : w20.cell? ⟨(w.heap.size + 1 + 1 + 1), 1, none⟩ = some (.slice A3 n3 c3) := keepc hb' c19_a3_1
  clear c19_a3_1 ac19_a3_1
  have c20_a3_2 : w20.cell? ⟨(w.heap.size + 1 + 1 + 1), 2, none⟩ = some (.slice B3 m3 d3) := keepc hb' c19_a3_2
  clear c19_a3_2 ac19_a3_2
  have c20_o27_0 : w20.cell? ⟨w10.heap.size, 0, none⟩ = some (.int .i64 sy0) := keepc hb' c19_o27_0
  clear c19_o27_0 ac19_o27_0
  have c20_o27_1 : w20.cell? ⟨w10.heap.size, 1, none⟩ = some (.int .i64 st0) := keepc hb' c19_o27_1
  clear c19_o27_1 ac19_o27_1
  have c20_o27_2 : w20.cell? ⟨w10.heap.size, 2, none⟩ = some (.slice (some ⟨g026, 0, none⟩) n0 n0) := keepc hb' c19_o27_2
  clear c19_o27_2 ac19_o27_2
  have c20_o29_0 : w20.cell? ⟨w11.heap.size, 0, none⟩ = some (.int .i64 st1) := keepc hb' c19_o29_0
  clear c19_o29_0 ac19_o29_0
  have c20_o29_1 : w20.cell? ⟨w11.heap.size, 1, none⟩ = some (.slice (some ⟨g28, 0, none⟩) n1 n1) := keepc hb' c19_o29_1
  clear c19_o29_1 ac19_o29_1
  have c20_o31_0 : w20.cell? ⟨w12.heap.size, 0, none⟩ = some (.int .i64 st2) := keepc hb' c19_o31_0
  clear c19_o31_0 ac19_o31_0
  have c20_o31_1 : w20.cell? ⟨w12.heap.size, 1, none⟩ = some (.slice (some ⟨g30, 0, none⟩) n2 n2) := keepc hb' c19_o31_1
  clear c19_o31_1 ac19_o31_1
  have c20_o34_0 : w20.cell? ⟨w13.heap.size, 0, none⟩ = some (.int .i64 st3) := keepc hb' c19_o34_0
  clear c19_o34_0 ac19_o34_0
  have c20_o34_1 : w20.cell? ⟨w13.heap.size, 1, none⟩ = some (.slice (some ⟨g032, 0, none⟩) n3 n3) := keepc hb' c19_o34_1
  clear c19_o34_1 ac19_o34_1
  have c20_o34_2 : w20.cell? ⟨w13.heap.size, 2, none⟩ = some (.slice (some ⟨g133, 0, none⟩) m3 m3) := keepc hb' c19_o34_2
  clear c19_o34_2 ac19_o34_2
  have ac20_a0_0 := fun o => keepa o c20_a0_0
  have ac20_a0_1 := fun o => keepa o c20_a0_1
  have ac20_a0_2 := fun o => keepa o c20_a0_2
  have ac20_a1_0 := fun o => keepa o c20_a1_0
  have ac20_a1_1 := fun o => keepa o c20_a1_1
  have ac20_a2_0 := fun o => keepa o c20_a2_0
  have ac20_a2_1 := fun o => keepa o c20_a2_1
  have ac20_a3_0 := fun o => keepa o c20_a3_0
  have ac20_a3_1 := fun o => keepa o c20_a3_1
  have ac20_a3_2 := fun o => keepa o c20_a3_2
  have ac20_o27_0 := fun o => keepa o c20_o27_0
  have ac20_o27_1 := fun o => keepa o c20_o27_1
  have ac20_o27_2 := fun o => keepa o c20_o27_2
  have ac20_o29_0 := fun o => keepa o c20_o29_0
  have ac20_o29_1 := fun o => keepa o c20_o29_1
  have ac20_o31_0 := fun o => keepa o c20_o31_0
  have ac20_o31_1 := fun o => keepa o c20_o31_1
  have ac20_o34_0 := fun o => keepa o c20_o34_0
  have ac20_o34_1 := fun o => keepa o c20_o34_1
  have ac20_o34_2 := fun o => keepa o c20_o34_2
  have rP0 := P0.out.below hb'; clear P0; have P0 := Lib.hid rP0; clear rP0
  have rP1 := P1.out.below hb'; clear P1; have P1 := Lib.hid rP1; clear rP1
  have rP2 := P2.out.below hb'; clear P2; have P2 := Lib.hid rP2; clear rP2
  have rP3 := P3.out.below hb'; clear P3; have P3 := Lib.hid rP3; clear rP3
  have rFo25 := Fo25.out.below hb'; clear Fo25; have Fo25 := Lib.hid rFo25; clear rFo25
  have rFo27 := Fo27.out.below hb'; clear Fo27; have Fo27 := Lib.hid rFo27; clear rFo27
  have rFo29 := Fo29.out.below hb'; clear Fo29; have Fo29 := Lib.hid rFo29; clear rFo29
  have rFo31 := Fo31.out.below hb'; clear Fo31; have Fo31 := Lib.hid rFo31; clear rFo31
  have rFo34 := Fo34.out.below hb'; clear Fo34; have Fo34 := Lib.hid rFo34; clear rFo34
  have rFo40 := Fo40.out.below hb'; clear Fo40; have Fo40 := Lib.hid rFo40; clear rFo40
  have rB := below_chain B.out (by omega) hb'; clear B; have B := Lib.hid rB; clear rB
  have Fo46 := Lib.hid q20; clear q20
  have em20 : Below w19.heap.size w19 w20 := hb'
  clear hb hb'
  go_wp2_with fail
  refine hK _ _ ⟨⟨_, em20⟩, rfl⟩ ?_
  clear hK K
  refine Mix.wpMix_chg (by rfl) (fun K hK => ?_)
  go_wp2_with fail
  refine (eqDfa_t _ _ _ _ _ _ _ _ _ (by exact (Fo31.out.rdI)) (by exact (Fo46.out.rdI)) (by omega)).mono ?_
  rintro e w21 ⟨rfl, hb⟩
  have hb' : Below w20.heap.size w20 w21 := (by first | (with_reducible exact hb) | (with_reducible exact up1 hb) | (with_reducible exact up2 hb) | (with_reducible exact up3 hb) | (with_reducible exact up4 hb) | (with_reducible exact below_of_drew hb) | (with_reducible exact below_of_drew (up1 hb)))
  have z21 := hb'.size
  have c21_a0_0 : w21.cell? ⟨w.heap.size, 0, none⟩ = some (.int .i64 sy0) := keepc hb' c20_a0_0
  clear c20_a0_0 ac20_a0_0
  have c21_a0_1 : w21.cell? ⟨w.heap.size, 1, none⟩ = some (.int .i64 st0) := keepc hb' c20_a0_1
  clear c20_a0_1 ac20_a0_1
  have c21_a0_2 : w21.cell? ⟨w.heap.size, 2, none⟩ = some (.slice A0 n0 c0) := keepc hb' c20_a0_2
  clear c20_a0_2 ac20_a0_2
  have c21_a1_0 : w21.cell? ⟨(w.heap.size + 1), 0, none⟩ = some (.int .i64 st1) := keepc hb' c20_a1_0
  clear c20_a1_0 ac20_a1_0
  have c21_a1_1 : w21.cell? ⟨(w.heap.size + 1), 1, none⟩ = some (.slice A1 n1 c1) := keepc hb' c20_a1_1
  clear c20_a1_1 ac20_a1_1
  have c21_a2_0 : w21.cell? ⟨(w.heap.size + 1 + 1), 0, none⟩ = some (.int .i64 st2) := keepc hb' c20_a2_0
  clear c20_a2_0 ac20_a2_0
  have c21_a2_1 : w21.cell? ⟨(w.heap.size + 1 + 1), 1, none⟩ = some (.slice A2 n2 c2) := keepc hb' c20_a2_1
  clear c20_a2_1 ac20_a2_1
  have c21_a3_0 : w21.cell? ⟨(w.heap.size + 1 + 1 + 1), 0, none⟩ = some (.int .i64 st3) := keepc hb' c20_a3_0
  clear c20_a3_0 ac20_a3_0
  have c21_a3_1 : w21.cell? ⟨(w.heap.size + 1 + 1 + 1), 1, none⟩ = some (.slice A3 n3 c3) := keepc hb' c20_a3_1
  clear c20_a3_1 ac20_a3_1
  have c21_a3_2 : w21.cell? ⟨(w.heap.size + 1 + 1 + 1), 2, none⟩ = some (.slice B3 m3 d3) := keepc hb' c20_a3_2
  clear c20_a3_2 ac20_a3_2
  have c21_o27_0 : w21.cell? ⟨w10.heap.size, 0, none⟩ = some (.int .i64 sy0) := keepc hb' c20_o27_0
  clear c20_o27_0 ac20_o27_0
  have c21_o27_1 : w21.cell? ⟨w10.heap.size, 1, none⟩ = some (.int .i64 st0) := keepc hb' c20_o27_1
  clear c20_o27_1 ac20_o27_1
  have c21_o27_2 : w21.cell? ⟨w10.heap.size, 2, none⟩ = some (.slice (some ⟨g026, 0, none⟩) n0 n0) := keepc hb' c20_o27_2
  clear c20_o27_2 ac20_o27_2
  have c21_o29_0 : w21.cell? ⟨w11.heap.size, 0, none⟩ = some (.int .i64 st1) := keepc hb' c20_o29_0
  clear c20_o29_0 ac20_o29_0
  have c21_o29_1 : w21.cell? ⟨w11.heap.size, 1, none⟩ = some (.slice (some ⟨g28, 0, none⟩) n1 n1) := keepc hb' c20_o29_1
  clear c20_o29_1 ac20_o29_1
  have c21_o31_0 : w21.cell? ⟨w12.heap.size, 0, none⟩ = some (.int .i64 st2) := keepc hb' c20_o31_0
  clear c20_o31_0 ac20_o31_0
  have c21_o31_1 : w21.cell? ⟨w12.heap.size, 1, none⟩ = some (.slice (some ⟨g30, 0, none⟩) n2 n2) := keepc hb' c20_o31_1
  clear c20_o31_1 ac20_o31_1
  have c21_o34_0 : w21.cell? ⟨w13.heap.size, 0, none⟩ = some (.int .i64 st3) := keepc hb' c20_o34_0
  clear c20_o34_0 ac20_o34_0
  have c21_o34_1 : w21.cell? ⟨w13.heap.size, 1, none⟩ = some (.slice (some ⟨g032, 0, none⟩) n3 n3) := keepc hb' c20_o34_1
  clear c20_o34_1 ac20_o34_1
  have c21_o34_2 : w21.cell? ⟨w13.heap.size, 2, none⟩ = some (.slice (some ⟨g133, 0, none⟩) m3 m3) := keepc hb' c20_o34_2
  clear c20_o34_2 ac20_o34_2
  have ac21_a0_0 := fun o => keepa o c21_a0_0
  have ac21_a0_1 := fun o => keepa o c21_a0_1
  have ac21_a0_2 := fun o => keepa o c21_a0_2
  have ac21_a1_0 := fun o => keepa o c21_a1_0
  have ac21_a1_1 := fun o => keepa o c21_a1_1
  have ac21_a2_0 := fun o => keepa o c21_a2_0
  have ac21_a2_1 := fun o => keepa o c21_a2_1
  have ac21_a3_0 := fun o => keepa o c21_a3_0
  have ac21_a3_1 := fun o => keepa o c21_a3_1
  have ac21_a3_2 := fun o => keepa o c21_a3_2
  have ac21_o27_0 := fun o => keepa o c21_o27_0
  have ac21_o27_1 := fun o => keepa o c21_o27_1
  have ac21_o27_2 := fun o => keepa o c21_o27_2
  have ac21_o29_0 := fun o => keepa o c21_o29_0
  have ac21_o29_1 := fun o => keepa o c21_o29_1
  have ac21_o31_0 := fun o => keepa o c21_o31_0
  have ac21_o31_1 := fun o => keepa o c21_o31_1
  have ac21_o34_0 := fun o => keepa o c21_o34_0
  have ac21_o34_1 := fun o => keepa o c21_o34_1
  have ac21_o34_2 := fun o => keepa o c21_o34_2
  have rP0 := P0.out.below hb'; clear P0; have P0 := Lib.hid rP0; clear rP0
  have rP1 := P1.out.below hb'; clear P1; have P1 := Lib.hid rP1; clear rP1
  have rP2 := P2.out.below hb'; clear P2; have P2 := Lib.hid rP2; clear rP2
  have rP3 := P3.out.below hb'; clear P3; have P3 := Lib.hid rP3; clear rP3
  have rFo25 := Fo25.out.below hb'; clear Fo25; have Fo25 := Lib.hid rFo25; clear rFo25
  have rFo27 := Fo27.out.below hb'; clear Fo27; have Fo27 := Lib.hid rFo27; clear rFo27
  have rFo29 := Fo29.out.below hb'; clear Fo29; have Fo29 := Lib.hid rFo29; clear rFo29
  have rFo31 := Fo31.out.below hb'; clear Fo31; have Fo31 := Lib.hid rFo31; clear rFo31
  have rFo34 := Fo34.out.below hb'; clear Fo34; have Fo34 := Lib.hid rFo34; clear rFo34
  have rFo40 := Fo40.out.below hb'; clear Fo40; have Fo40 := Lib.hid rFo40; clear rFo40
  have rFo46 := Fo46.out.below hb'; clear Fo46; have Fo46 := Lib.hid rFo46; clear rFo46
  have rB := below_chain B.out (by omega) hb'; clear B; have B := Lib.hid rB; clear rB
  have em21 : Below w19.heap.size w19 w21 := below_chain em20 (by omega) hb'
  clear hb hb'
  go_wp2_with fail
  refine hK _ _ ⟨⟨_, em21⟩, rfl⟩ ?_
  clear hK K
  repeat (first | (refine Mix.wpMix_read (by rfl) ?_; go_big_quiet_step (fail); refine wpQuiet_nil ?_) | (refine Mix.wpMix_pure (by rfl) ?_; go_big_quiet_step (fail); refine wpQuiet_nil ?_))
  (refine Mix.wpMix_nil ?_; try simp only [Exit.then])
  clear fx_c19_a0_0
  clear fx_c19_a0_1
  clear fx_c19_a0_2
  clear fx_c19_a1_0
  clear fx_c19_a1_1
  clear fx_c19_a2_0
  clear fx_c19_a2_1
  clear fx_c19_a3_0
  clear fx_c19_a3_1
  clear fx_c19_a3_2
  clear fx_c19_o27_0
  clear fx_c19_o27_1
  clear fx_c19_o27_2
  clear fx_c19_o29_0
  clear fx_c19_o29_1
  clear fx_c19_o31_0
  clear fx_c19_o31_1
  clear fx_c19_o34_0
  clear fx_c19_o34_1
  clear fx_c19_o34_2
  clear Fo46
  go_wp2_with fail
  have fx_c21_a0_0 := Ext.cell c21_a0_0
  have fx_c21_a0_1 := Ext.cell c21_a0_1
  have fx_c21_a0_2 := Ext.cell c21_a0_2
  have fx_c21_a1_0 := Ext.cell c21_a1_0
  have fx_c21_a1_1 := Ext.cell c21_a1_1
  have fx_c21_a2_0 := Ext.cell c21_a2_0
  have fx_c21_a2_1 := Ext.cell c21_a2_1
  have fx_c21_a3_0 := Ext.cell c21_a3_0
  have fx_c21_a3_1 := Ext.cell c21_a3_1
  have fx_c21_a3_2 := Ext.cell c21_a3_2
  have fx_c21_o27_0 := Ext.cell c21_o27_0
  have fx_c21_o27_1 := Ext.cell c21_o27_1
  have fx_c21_o27_2 := Ext.cell c21_o27_2
  have fx_c21_o29_0 := Ext.cell c21_o29_0
  have fx_c21_o29_1 := Ext.cell c21_o29_1
  have fx_c21_o31_0 := Ext.cell c21_o31_0
  have fx_c21_o31_1 := Ext.cell c21_o31_1
  have fx_c21_o34_0 := Ext.cell c21_o34_0
  have fx_c21_o34_1 := Ext.cell c21_o34_1
  have fx_c21_o34_2 := Ext.cell c21_o34_2
  refine Mix.wp_region_mix [3, 3, 1, 1, 0] (fun w' => ∃ x : Ext w21, w' = x.w) (by kernel_rfl) (by kernel_rfl) (InExt.drew _) ?_
  repeat (first | (refine Mix.wpMix_read (by rfl) ?_; go_big_quiet_step (fail); refine wpQuiet_nil ?_) | (refine Mix.wpMix_pure (by rfl) ?_; go_big_quiet_step (fail); refine wpQuiet_nil ?_))
  refine Mix.wpMix_chg (by rfl) (fun K hK => ?_)
  go_wp2_with fail
  refine (toConfig_c _ _ _ _ _ _ _ _ _ _ (by exact (P3.out.rd)) (by omega) (by omega)).mono ?_
  rintro e w22 ⟨g047, g148, rfl, q22, hb⟩
  have hb' : Below w21.heap.size w21 w22 := (by first | (with_reducible exact hb) | (with_reducible exact up1 hb) | (with_reducible exact up2 hb) | (with_reducible exact up3 hb) | (with_reducible exact up4 hb) | (with_reducible exact below_of_drew hb) | (with_reducible exact below_of_drew (up1 hb)))
  have z22 := hb'.size
  have c22_a0_0 : w22.cell? ⟨w.heap.size, 0, none⟩ = some (.int .i64 sy0) := keepc hb' c21_a0_0
  clear c21_a0_0 ac21_a0_0
  have c22_a0_1 : w22.cell? ⟨w.heap.size, 1, none⟩ = some (.int .i64 st0) := keepc hb' c21_a0_1
  clear c21_a0_1 ac21_a0_1
  have c22_a0_2 : w22.cell? ⟨w.heap.size, 2, none⟩ = some (.slice A0 n0 c0) := keepc hb' c21_a0_2
  clear c21_a0_2 ac21_a0_2
  have c22_a1_0 : w22.cell? ⟨(w.heap.size + 1), 0, none⟩ = some (.int .i64 st1) := keepc hb' c21_a1_0
  clear c21_a1_0 ac21_a1_0
  have c22_a1_1 : w22.cell? ⟨(w.heap.size + 1), 1, none⟩ = some (.slice A1 n1 c1) := keepc hb' c21_a1_1
  clear c21_a1_1 ac21_a1_1
  have c22_a2_0 : w22.cell? ⟨(w.heap.size + 1 + 1), 0, none⟩ = some (.int .i64 st2) := keepc hb' c21_a2_0
  clear c21_a2_0 ac21_a2_0
  have c22_a2_1 : w22.cell? ⟨(w.heap.size + 1 + 1), 1, none⟩ = some (.slice A2 n2 c2) := keepc hb' c21_a2_1
  clear c21_a2_1 ac21_a2_1
  have c22_a3_0 : w22.cell? ⟨(w.heap.size + 1 + 1 + 1), 0, none⟩ = some (.int .i64 st3) := keepc hb' c21_a3_0
  clear c21_a3_0 ac21_a3_0
  have c22_a3_1 : w22.cell? ⟨(w.heap.size + 1 + 1 + 1), 1, none⟩ = some (.slice A3 n3 c3) := keepc hb' c21_a3_1
  clear c21_a3_1 ac21_a3_1
  have c22_a3_2 : w22.cell? ⟨(w.heap.size + 1 + 1 + 1), 2, none⟩ = some (.slice B3 m3 d3) := keepc hb' c21_a3_2
  clear c21_a3_2 ac21_a3_2
  have c22_o27_0 : w22.cell? ⟨w10.heap.size, 0, none⟩ = some (.int .i64 sy0) := keepc hb' c21_o27_0
  clear c21_o27_0 ac21_o27_0
  have c22_o27_1 : w22.cell? ⟨w10.heap.size, 1, none⟩ = some (.int .i64 st0) := keepc hb' c21_o27_1
  clear c21_o27_1 ac21_o27_1
  have c22_o27_2 : w22.cell? ⟨w10.heap.size, 2, none⟩ = some (.slice (some ⟨g026, 0, none⟩) n0 n0) := keepc hb' c21_o27_2
  clear c21_o27_2 ac21_o27_2
  have c22_o29_0 : w22.cell? ⟨w11.heap.size, 0, none⟩ = some (.int .i64 st1) := keepc hb' c21_o29_0
  clear c21_o29_0 ac21_o29_0
  have c22_o29_1 : w22.cell? ⟨w11.heap.size, 1, none⟩ = some (.slice (some ⟨g28, 0, none⟩) n1 n1) := keepc hb' c21_o29_1
  clear c21_o29_1 ac21_o29_1
  have c22_o31_0 : w22.cell? ⟨w12.heap.size, 0, none⟩ = some (.int .i64 st2) := keepc hb' c21_o31_0
  clear c21_o31_0 ac21_o31_0
  have c22_o31_1 : w22.cell? ⟨w12.heap.size, 1, none⟩ = some (.slice (some ⟨g30, 0, none⟩) n2 n2) := keepc hb' c21_o31_1
  clear c21_o31_1 ac21_o31_1
  have c22_o34_0 : w22.cell? ⟨w13.heap.size, 0, none⟩ = some (.int .i64 st3) := keepc hb' c21_o34_0
  clear c21_o34_0 ac21_o34_0
  have c22_o34_1 : w22.cell? ⟨w13.heap.size, 1, none⟩ = some (.slice (some ⟨g032, 0, none⟩) n3 n3) := keepc hb' c21_o34_1
  clear c21_o34_1 ac21_o34_1
  have c22_o34_2 : w22.cell? ⟨w13.heap.size, 2, none⟩ = some (.slice (some ⟨g133, 0, none⟩) m3 m3) := keepc hb' c21_o34_2
  clear c21_o34_2 ac21_o34_2
  have ac22_a0_0 := fun o => keepa o c22_a0_0
  have ac22_a0_1 := fun o => keepa o c22_a0_1
  have ac22_a0_2 := fun o => keepa o c22_a0_2
  have ac22_a1_0 := fun o => keepa o c22_a1_0
  have ac22_a1_1 := fun o => keepa o c22_a1_1
  have ac22_a2_0 := fun o => keepa o c22_a2_0
  have ac22_a2_1 := fun o => keepa o c22_a2_1
  have ac22_a3_0 := fun o => keepa o c22_a3_0
  have ac22_a3_1 := fun o => keepa o c22_a3_1
  have ac22_a3_2 := fun o => keepa o c22_a3_2
  have ac22_o27_0 := fun o => keepa o c22_o27_0
  have ac22_o27_1 := fun o => keepa o c22_o27_1
  have ac22_o27_2 := fun o => keepa o c22_o27_2
  have ac22_o29_0 := fun o => keepa o c22_o29_0
  have ac22_o29_1 := fun o => keepa o c22_o29_1
  have ac22_o31_0 := fun o => keepa o c22_o31_0
  have ac22_o31_1 := fun o => keepa o c22_o31_1
  have ac22_o34_0 := fun o => keepa o c22_o34_0
  have ac22_o34_1 := fun o => keepa o c22_o34_1
  have ac22_o34_2 := fun o => keepa o c22_o34_2
  have rP0 := P0.out.below hb'; clear P0; have P0 := Lib.hid rP0; clear rP0
  have rP1 := P1.out.below hb'; clear P1; have P1 := Lib.hid rP1; clear rP1
  have rP2 := P2.out.below hb'; clear P2; have P2 := Lib.hid rP2; clear rP2
  have rP3 := P3.out.below hb'; clear P3; have P3 := Lib.hid rP3; clear rP3
  have rFo25 := Fo25.out.below hb'; clear Fo25; have Fo25 := Lib.hid rFo25; clear rFo25
  have rFo27 := Fo27.out.below hb'; clear Fo27; have Fo27 := Lib.hid rFo27; clear rFo27
  have rFo29 := Fo29.out.below hb'; clear Fo29; have Fo29 := Lib.hid rFo29; clear rFo29
  have rFo31 := Fo31.out.below hb'; clear Fo31; have Fo31 := Lib.hid rFo31; clear rFo31
  have rFo34 := Fo34.out.below hb'; clear Fo34; have Fo34 := Lib.hid rFo34; clear rFo34
  have rFo40 := Fo40.out.below hb'; clear Fo40; have Fo40 := Lib.hid rFo40; clear rFo40
  have rB := below_chain B.out (by omega) hb'; clear B; have B := Lib.hid rB; clear rB
  have Fo49 := Lib.hid q22; clear q22
  have em22 : Below w21.heap.size w21 w22 := hb'
  clear hb hb'
  go_wp2_with fail
  refine hK _ _ ⟨⟨_, em22⟩, rfl⟩ ?_
  clear hK K
  refine Mix.wpMix_chg (by rfl) (fun K hK => ?_)
  go_wp2_with fail
  refine (eqConfig_t _ _ _ _ _ _ _ _ _ _ _ _ _ _ _ _ (by exact (Fo34.out.rd)) (by exact (Fo49.out.rd)) (by omega) (by omega)).mono ?_
  rintro e w23 ⟨rfl, hb⟩
  have hb' : Below w22.heap.size w22 w23 := (by first | (with_reducible exact hb) | (with_reducible exact up1 hb) | (with_reducible exact up2 hb) | (with_reducible exact up3 hb) | (with_reducible exact up4 hb) | (with_reducible exact below_of_drew hb) | (with_reducible exact below_of_drew (up1 hb)))
  have z23 := hb'.size
  have c23_a0_0 : w23.cell? ⟨w.heap.size, 0, none⟩ = some (.int .i64 sy0) := keepc hb' c22_a0_0
  clear c22_a0_0 ac22_a0_0
  have c23_a0_1 : w23.cell? ⟨w.heap.size, 1, none⟩ = some (.int .i64 st0) := keepc hb' c22_a0_1
  clear c22_a0_1 ac22_a0_1
  have c23_a0_2 : w23.cell? ⟨w.heap.size, 2, none⟩ = some (.slice A0 n0 c0) := keepc hb' c22_a0_2
  clear c22_a0_2 ac22_a0_2
  have c23_a1_0 : w23.cell? ⟨(w.heap.size + 1), 0, none⟩ = some (.int .i64 st1) := keepc hb' c22_a1_0
  clear c22_a1_0 ac22_a1_0
  have c23_a1_1 : w23.cell? ⟨(w.heap.size + 1), 1, none⟩ = some (.slice A1 n1 c1) := keepc hb' c22_a1_1
  clear c22_a1_1 ac22_a1_1
  have c23_a2_0 : w23.cell? ⟨(w.heap.size + 1 + 1), 0, none⟩ = some (.int .i64 st2) := keepc hb' c22_a2_0
  clear c22_a2_0 ac22_a2_0
  have c23_a2_1 : w23.cell? ⟨(w.heap.size + 1 + 1), 1, none⟩ = some (.slice A2 n2 c2) := keepc hb' c22_a2_1
  clear c22_a2_1 ac22_a2_1
  have c23_a3_0 : w23.cell? ⟨(w.heap.size + 1 + 1 + 1), 0, none⟩ = some (.int .i64 st3) := keepc hb' c22_a3_0
  clear c22_a3_0 ac22_a3_0
  have c23_a3_1 : w23.cell? ⟨(w.heap.size + 1 + 1 + 1), 1, none⟩ = some (.slice A3 n3 c3) := keepc hb' c22_a3_1
  clear c22_a3_1 ac22_a3_1
  have c23_a3_2 : w23.cell? ⟨(w.heap.size + 1 + 1 + 1), 2, none⟩ = some (.slice B3 m3 d3) := keepc hb' c22_a3_2
  clear c22_a3_2 ac22_a3_2
  have c23_o27_0 : w23.cell? ⟨w10.heap.size, 0, none⟩ = some (.int .i64 sy0) := keepc hb' c22_o27_0
  clear c22_o27_0 ac22_o27_0
  have c23_o27_1 : w23.cell? ⟨w10.heap.size, 1, none⟩ = some (.int .i64 st0) := keepc hb' c22_o27_1
  clear c22_o27_1 ac22_o27_1
  have c23_o27_2 : w23.cell? ⟨w10.heap.size, 2, none⟩ = some (.slice (some ⟨g026, 0, none⟩) n0 n0) := keepc hb' c22_o27_2
  clear c22_o27_2 ac22_o27_2
  have c23_o29_0 : w23.cell? ⟨w11.heap.size, 0, none⟩ = some (.int .i64 st1) := keepc hb' c22_o29_0
  clear c22_o29_0 ac22_o29_0
  have c23_o29_1 : w23.cell? ⟨w11.heap.size, 1, none⟩ = some (.slice (some ⟨g28, 0, none⟩) n1 n1) := keepc hb' c22_o29_1
  clear c22_o29_1 ac22_o29_1
  have c23_o31_0 : w23.cell? ⟨w12.heap.size, 0, none⟩ = some (.int .i64 st2) := keepc hb' c22_o31_0
  clear c22_o31_0 ac22_o31_0
  have c23_o31_1 : w23.cell? ⟨w12.heap.size, 1, none⟩ = some (.slice (some ⟨g30, 0, none⟩) n2 n2) := keepc hb' c22_o31_1
  clear c22_o31_1 ac22_o31_1
  have c23_o34_0 : w23.cell? ⟨w13.heap.size, 0, none⟩ = some (.int .i64 st3) := keepc hb' c22_o34_0
  clear c22_o34_0 ac22_o34_0
  have c23_o34_1 : w23.cell? ⟨w13.heap.size, 1, none⟩ = some (.slice (some ⟨g032, 0, none⟩) n3 n3) := keepc hb' c22_o34_1
  clear c22_o34_1 ac22_o34_1
  have c23_o34_2 : w23.cell? ⟨w13.heap.size, 2, none⟩ = some (.slice (some ⟨g133, 0, none⟩) m3 m3) := keepc hb' c22_o34_2
  clear c22_o34_2 ac22_o34_2
  have ac23_a0_0 := fun o => keepa o c23_a0_0
  have ac23_a0_1 := fun o => keepa o c23_a0_1
  have ac23_a0_2 := fun o => keepa o c23_a0_2
  have ac23_a1_0 := fun o => keepa o c23_a1_0
  have ac23_a1_1 := fun o => keepa o c23_a1_1
  have ac23_a2_0 := fun o => keepa o c23_a2_0
  have ac23_a2_1 := fun o => keepa o c23_a2_1
  have ac23_a3_0 := fun o => keepa o c23_a3_0
  have ac23_a3_1 := fun o => keepa o c23_a3_1
  have ac23_a3_2 := fun o => keepa o c23_a3_2
  have ac23_o27_0 := fun o => keepa o c23_o27_0
  have ac23_o27_1 := fun o => keepa o c23_o27_1
  have ac23_o27_2 := fun o => keepa o c23_o27_2
  have ac23_o29_0 := fun o => keepa o c23_o29_0
  have ac23_o29_1 := fun o => keepa o c23_o29_1
  have ac23_o31_0 := fun o => keepa o c23_o31_0
  have ac23_o31_1 := fun o => keepa o c23_o31_1
  have ac23_o34_0 := fun o => keepa o c23_o34_0
  have ac23_o34_1 := fun o => keepa o c23_o34_1
  have ac23_o34_2 := fun o => keepa o c23_o34_2
  have rP0 := P0.out.below hb'; clear P0; have P0 := Lib.hid rP0; clear rP0
  have rP1 := P1.out.below hb'; clear P1; have P1 := Lib.hid rP1; clear rP1
  have rP2 := P2.out.below hb'; clear P2; have P2 := Lib.hid rP2; clear rP2
  have rP3 := P3.out.below hb'; clear P3; have P3 := Lib.hid rP3; clear rP3
  have rFo25 := Fo25.out.below hb'; clear Fo25; have Fo25 := Lib.hid rFo25; clear rFo25
  have rFo27 := Fo27.out.below hb'; clear Fo27; have Fo27 := Lib.hid rFo27; clear rFo27
  have rFo29 := Fo29.out.below hb'; clear Fo29; have Fo29 := Lib.hid rFo29; clear rFo29
  have rFo31 := Fo31.out.below hb'; clear Fo31; have Fo31 := Lib.hid rFo31; clear rFo31
  have rFo34 := Fo34.out.below hb'; clear Fo34; have Fo34 := Lib.hid rFo34; clear rFo34
  have rFo40 := Fo40.out.below hb'; clear Fo40; have Fo40 := Lib.hid rFo40; clear rFo40
  have rFo49 := Fo49.out.below hb'; clear Fo49; have Fo49 := Lib.hid rFo49; clear rFo49
  have rB := below_chain B.out (by omega) hb'; clear B; have B := Lib.hid rB; clear rB
  have em23 : Below w21.heap.size w21 w23 := below_chain em22 (by omega) hb'
  clear hb hb'
  go_wp2_with fail
  refine hK _ _ ⟨⟨_, em23⟩, rfl⟩ ?_
  clear hK K
  repeat (first | (refine Mix.wpMix_read (by rfl) ?_; go_big_quiet_step (fail); refine wpQuiet_nil ?_) | (refine Mix.wpMix_pure (by rfl) ?_; go_big_quiet_step (fail); refine wpQuiet_nil ?_))
  (refine Mix.wpMix_nil ?_; try simp only [Exit.then])
  clear fx_c21_a0_0
  clear fx_c21_a0_1
  clear fx_c21_a0_2
  clear fx_c21_a1_0
  clear fx_c21_a1_1
  clear fx_c21_a2_0
  clear fx_c21_a2_1
  clear fx_c21_a3_0
  clear fx_c21_a3_1
  clear fx_c21_a3_2
  clear fx_c21_o27_0
  clear fx_c21_o27_1
  clear fx_c21_o27_2
  clear fx_c21_o29_0
  clear fx_c21_o29_1
  clear fx_c21_o31_0
  clear fx_c21_o31_1
  clear fx_c21_o34_0
  clear fx_c21_o34_1
  clear fx_c21_o34_2
  clear Fo49
  go_wp2_with fail
  refine (markMachine_c _ _ _ _ _ _ _ _ _ _ (by exact (Fo27.out)) (by omega) (by omega) (by omega)).mono ?_
  rintro e w24 ⟨rfl, q24, hk⟩
  have hk' : KeepR w9.heap.size w10.heap.size w23 w24 := (by first | (with_reducible exact hk) | (with_reducible exact hk.up1) | (with_reducible exact hk.up1.up1))
  have z24 := hk'.size
  have c24_a0_0 : w24.cell? ⟨w.heap.size, 0, none⟩ = some (.int .i64 sy0) := hk'.cell (by simp <;> omega) c23_a0_0
  clear c23_a0_0 ac23_a0_0
  have c24_a0_1 : w24.cell? ⟨w.heap.size, 1, none⟩ = some (.int .i64 st0) := hk'.cell (by simp <;> omega) c23_a0_1
  clear c23_a0_1 ac23_a0_1
  have c24_a0_2 : w24.cell? ⟨w.heap.size, 2, none⟩ = some (.slice A0 n0 c0) := hk'.cell (by simp <;> omega) c23_a0_2
  clear c23_a0_2 ac23_a0_2
  have c24_a1_0 : w24.cell? ⟨(w.heap.size + 1), 0, none⟩ = some (.int .i64 st1) := hk'.cell (by simp <;> omega) c23_a1_0
  clear c23_a1_0 ac23_a1_0
  have c24_a1_1 : w24.cell? ⟨(w.heap.size + 1), 1, none⟩ = some (.slice A1 n1 c1) := hk'.cell (by simp <;> omega) c23_a1_1
  clear c23_a1_1 ac23_a1_1
  have c24_a2_0 : w24.cell? ⟨(w.heap.size + 1 + 1), 0, none⟩ = some (.int .i64 st2) := hk'.cell (by simp <;> omega) c23_a2_0
  clear c23_a2_0 ac23_a2_0
  have c24_a2_1 : w24.cell? ⟨(w.heap.size + 1 + 1), 1, none⟩ = some (.slice A2 n2 c2) := hk'.cell (by simp <;> omega) c23_a2_1
  clear c23_a2_1 ac23_a2_1
  have c24_a3_0 : w24.cell? ⟨(w.heap.size + 1 + 1 + 1), 0, none⟩ = some (.int .i64 st3) := hk'.cell (by simp <;> omega) c23_a3_0
  clear c23_a3_0 ac23_a3_0
  have c24_a3_1 : w24.cell? ⟨(w.heap.size + 1 + 1 + 1), 1, none⟩ = some (.slice A3 n3 c3) := hk'.cell (by simp <;> omega) c23_a3_1
  clear c23_a3_1 ac23_a3_1
  have c24_a3_2 : w24.cell? ⟨(w.heap.size + 1 + 1 + 1), 2, none⟩ = some (.slice B3 m3 d3) := hk'.cell (by simp <;> omega) c23_a3_2
  clear c23_a3_2 ac23_a3_2
  have c24_o27_0 : w24.cell? ⟨w10.heap.size, 0, none⟩ = some (.int .i64 sy0) := hk'.cell (by simp <;> omega) c23_o27_0
  clear c23_o27_0 ac23_o27_0
  have c24_o27_1 : w24.cell? ⟨w10.heap.size, 1, none⟩ = some (.int .i64 st0) := hk'.cell (by simp <;> omega) c23_o27_1
  clear c23_o27_1 ac23_o27_1
  have c24_o27_2 : w24.cell? ⟨w10.heap.size, 2, none⟩ = some (.slice (some ⟨g026, 0, none⟩) n0 n0) := hk'.cell (by simp <;> omega) c23_o27_2
  clear c23_o27_2 ac23_o27_2
  have c24_o29_0 : w24.cell? ⟨w11.heap.size, 0, none⟩ = some (.int .i64 st1) := hk'.cell (by simp <;> omega) c23_o29_0
  clear c23_o29_0 ac23_o29_0
  have c24_o29_1 : w24.cell? ⟨w11.heap.size, 1, none⟩ = some (.slice (some ⟨g28, 0, none⟩) n1 n1) := hk'.cell (by simp <;> omega) c23_o29_1
  clear c23_o29_1 ac23_o29_1
  have c24_o31_0 : w24.cell? ⟨w12.heap.size, 0, none⟩ = some (.int .i64 st2) := hk'.cell (by simp <;> omega) c23_o31_0
  clear c23_o31_0 ac23_o31_0
  have c24_o31_1 : w24.cell? ⟨w12.heap.size, 1, none⟩ = some (.slice (some ⟨g30, 0, none⟩) n2 n2) := hk'.cell (by simp <;> omega) c23_o31_1
  clear c23_o31_1 ac23_o31_1
  have c24_o34_0 : w24.cell? ⟨w13.heap.size, 0, none⟩ = some (.int .i64 st3) := hk'.cell (by simp <;> omega) c23_o34_0
  clear c23_o34_0 ac23_o34_0
  have c24_o34_1 : w24.cell? ⟨w13.heap.size, 1, none⟩ = some (.slice (some ⟨g032, 0, none⟩) n3 n3) := hk'.cell (by simp <;> omega) c23_o34_1
  clear c23_o34_1 ac23_o34_1
  have c24_o34_2 : w24.cell? ⟨w13.heap.size, 2, none⟩ = some (.slice (some ⟨g133, 0, none⟩) m3 m3) := hk'.cell (by simp <;> omega) c23_o34_2
  clear c23_o34_2 ac23_o34_2
  have ac24_a0_0 := fun o => keepa o c24_a0_0
  have ac24_a0_1 := fun o => keepa o c24_a0_1
  have ac24_a0_2 := fun o => keepa o c24_a0_2
  have ac24_a1_0 := fun o => keepa o c24_a1_0
  have ac24_a1_1 := fun o => keepa o c24_a1_1
  have ac24_a2_0 := fun o => keepa o c24_a2_0
  have ac24_a2_1 := fun o => keepa o c24_a2_1
  have ac24_a3_0 := fun o => keepa o c24_a3_0
  have ac24_a3_1 := fun o => keepa o c24_a3_1
  have ac24_a3_2 := fun o => keepa o c24_a3_2
  have ac24_o27_0 := fun o => keepa o c24_o27_0
  have ac24_o27_1 := fun o => keepa o c24_o27_1
  have ac24_o27_2 := fun o => keepa o c24_o27_2
  have ac24_o29_0 := fun o => keepa o c24_o29_0
  have ac24_o29_1 := fun o => keepa o c24_o29_1
  have ac24_o31_0 := fun o => keepa o c24_o31_0
  have ac24_o31_1 := fun o => keepa o c24_o31_1
  have ac24_o34_0 := fun o => keepa o c24_o34_0
  have ac24_o34_1 := fun o => keepa o c24_o34_1
  have ac24_o34_2 := fun o => keepa o c24_o34_2
  have rP0 := P0.out.keep hk' (by omega); clear P0; have P0 := Lib.hid rP0; clear rP0
  have rP1 := P1.out.keep hk' (by omega); clear P1; have P1 := Lib.hid rP1; clear rP1
  have rP2 := P2.out.keep hk' (by omega); clear P2; have P2 := Lib.hid rP2; clear rP2
  have rP3 := P3.out.keep hk' (by omega); clear P3; have P3 := Lib.hid rP3; clear rP3
  have rFo25 := Fo25.out.keep hk' (by omega); clear Fo25; have Fo25 := Lib.hid rFo25; clear rFo25
  have rFo27 := q24; clear Fo27; have Fo27 := Lib.hid rFo27; clear rFo27 q24
  have rFo29 := Fo29.out.keep hk' (by omega); clear Fo29; have Fo29 := Lib.hid rFo29; clear rFo29
  have rFo31 := Fo31.out.keep hk' (by omega); clear Fo31; have Fo31 := Lib.hid rFo31; clear rFo31
  have rFo34 := Fo34.out.keep hk' (by omega); clear Fo34; have Fo34 := Lib.hid rFo34; clear rFo34
  have rFo40 := Fo40.out.keep hk' (by omega); clear Fo40; have Fo40 := Lib.hid rFo40; clear rFo40
  have rB := B.out.trans (hk'.below (B := w.heap.size) (by omega) (by omega)); clear B; have B := Lib.hid rB; clear rB
  clear hk hk'
  go_wp2_with fail
  refine (markDfa_c _ _ _ _ _ _ _ _ _ (by exact (Fo29.out)) (by omega) (by omega) (by omega)).mono ?_
  rintro e w25 ⟨rfl, q25, hk⟩
  have hk' : KeepR (w10.heap.size + 1) w11.heap.size w24 w25 := (by first | (with_reducible exact hk) | (with_reducible exact hk.up1) | (with_reducible exact hk.up1.up1))
  have z25 := hk'.size
  have c25_a0_0 : w25.cell? ⟨w.heap.size, 0, none⟩ = some (.int .i64 sy0) := hk'.cell (by simp <;> omega) c24_a0_0
  clear c24_a0_0 ac24_a0_0
  have c25_a0_1 : w25.cell? ⟨w.heap.size, 1, none⟩ = some (.int .i64 st0) := hk'.cell (by simp <;> omega) c24_a0_1
  clear c24_a0_1 ac24_a0_1
  have c25_a0_2 : w25.cell? ⟨w.heap.size, 2, none⟩ = some (.slice A0 n0 c0) := hk'.cell (by simp <;> omega) c24_a0_2
  clear c24_a0_2 ac24_a0_2
  have c25_a1_0 : w25.cell? ⟨(w.heap.size + 1), 0, none⟩ = some (.int .i64 st1) := hk'.cell (by simp <;> omega) c24_a1_0
  clear c24_a1_0 ac24_a1_0
  have c25_a1_1 : w25.cell? ⟨(w.heap.size + 1), 1, none⟩ = some (.slice A1 n1 c1) := hk'.cell (by simp <;> omega) c24_a1_1
  clear c24_a1_1 ac24_a1_1
  have c25_a2_0 : w25.cell? ⟨(w.heap.size + 1 + 1), 0, none⟩ = some (.int .i64 st2) := hk'.cell (by simp <;> omega) c24_a2_0
  clear c24_a2_0 ac24_a2_0
  have c25_a2_1 : w25.cell? ⟨(w.heap.size + 1 + 1), 1, none⟩ = some (.slice A2 n2 c2) := hk'.cell (by simp <;> omega) c24_a2_1
  clear c24_a2_1 ac24_a2_1
  have c25_a3_0 : w25.cell? ⟨(w.heap.size + 1 + 1 + 1), 0, none⟩ = some (.int .i64 st3) := hk'.cell (by simp <;> omega) c24_a3_0
  clear c24_a3_0 ac24_a3_0
  have c25_a3_1 : w25.cell? ⟨(w.heap.size + 1 + 1 + 1), 1, none⟩ = some (.slice A3 n3 c3) := hk'.cell (by simp <;> omega) c24_a3_1
  clear c24_a3_1 ac24_a3_1
  have c25_a3_2 : w25.cell? ⟨(w.heap.size + 1 + 1 + 1), 2, none⟩ = some (.slice B3 m3 d3) := hk'.cell (by simp <;> omega) c24_a3_2
  clear c24_a3_2 ac24_a3_2
  have c25_o27_0 : w25.cell? ⟨w10.heap.size, 0, none⟩ = some (.int .i64 sy0) := hk'.cell (by simp <;> omega) c24_o27_0
  clear c24_o27_0 ac24_o27_0
  have c25_o27_1 : w25.cell? ⟨w10.heap.size, 1, none⟩ = some (.int .i64 st0) := hk'.cell (by simp <;> omega) c24_o27_1
  clear c24_o27_1 ac24_o27_1
  have c25_o27_2 : w25.cell? ⟨w10.heap.size, 2, none⟩ = some (.slice (some ⟨g026, 0, none⟩) n0 n0) := hk'.cell (by simp <;> omega) c24_o27_2
  clear c24_o27_2 ac24_o27_2
  have c25_o29_0 : w25.cell? ⟨w11.heap.size, 0, none⟩ = some (.int .i64 st1) := hk'.cell (by simp <;> omega) c24_o29_0
  clear c24_o29_0 ac24_o29_0
  have c25_o29_1 : w25.cell? ⟨w11.heap.size, 1, none⟩ = some (.slice (some ⟨g28, 0, none⟩) n1 n1) := hk'.cell (by simp <;> omega) c24_o29_1
  clear c24_o29_1 ac24_o29_1
  have c25_o31_0 : w25.cell? ⟨w12.heap.size, 0, none⟩ = some (.int .i64 st2) := hk'.cell (by simp <;> omega) c24_o31_0
  clear c24_o31_0 ac24_o31_0
  have c25_o31_1 : w25.cell? ⟨w12.heap.size, 1, none⟩ = some (.slice (some ⟨g30, 0, none⟩) n2 n2) := hk'.cell (by simp <;> omega) c24_o31_1
  clear c24_o31_1 ac24_o31_1
  have c25_o34_0 : w25.cell? ⟨w13.heap.size, 0, none⟩ = some (.int .i64 st3) := hk'.cell (by simp <;> omega) c24_o34_0
  clear c24_o34_0 ac24_o34_0
  have c25_o34_1 : w25.cell? ⟨w13.heap.size, 1, none⟩ = some (.slice (some ⟨g032, 0, none⟩) n3 n3) := hk'.cell (by simp <;> omega) c24_o34_1
  clear c24_o34_1 ac24_o34_1
  have c25_o34_2 : w25.cell? ⟨w13.heap.size, 2, none⟩ = some (.slice (some ⟨g133, 0, none⟩) m3 m3) := hk'.cell (by simp <;> omega) c24_o34_2
  clear c24_o34_2 ac24_o34_2
  have ac25_a0_0 := fun o => keepa o c25_a0_0
  have ac25_a0_1 := fun o => keepa o c25_a0_1
  have ac25_a0_2 := fun o => keepa o c25_a0_2
  have ac25_a1_0 := fun o => keepa o c25_a1_0
  have ac25_a1_1 := fun o => keepa o c25_a1_1
  have ac25_a2_0 := fun o => keepa o c25_a2_0
  have ac25_a2_1 := fun o => keepa o c25_a2_1
  have ac25_a3_0 := fun o => keepa o c25_a3_0
  have ac25_a3_1 := fun o => keepa o c25_a3_1
  have ac25_a3_2 := fun o => keepa o c25_a3_2
  have ac25_o27_0 := fun o => keepa o c25_o27_0
  have ac25_o27_1 := fun o => keepa o c25_o27_1
  have ac25_o27_2 := fun o => keepa o c25_o27_2
  have ac25_o29_0 := fun o => keepa o c25_o29_0
  have ac25_o29_1 := fun o => keepa o c25_o29_1
  have ac25_o31_0 := fun o => keepa o c25_o31_0
  have ac25_o31_1 := fun o => keepa o c25_o31_1
  have ac25_o34_0 := fun o => keepa o c25_o34_0
  have ac25_o34_1 := fun o => keepa o c25_o34_1
  have ac25_o34_2 := fun o => keepa o c25_o34_2
  have rP0 := P0.out.keep hk' (by omega); clear P0; have P0 := Lib.hid rP0; clear rP0
  have rP1 := P1.out.keep hk' (by omega); clear P1; have P1 := Lib.hid rP1; clear rP1
  have rP2 := P2.out.keep hk' (by omega); clear P2; have P2 := Lib.hid rP2; clear rP2
  have rP3 := P3.out.keep hk' (by omega); clear P3; have P3 := Lib.hid rP3; clear rP3
  have rFo25 := Fo25.out.keep hk' (by omega); clear Fo25; have Fo25 := Lib.hid rFo25; clear rFo25
  have rFo27 := Fo27.out.keep hk' (by omega); clear Fo27; have Fo27 := Lib.hid rFo27; clear rFo27
  have rFo29 := q25; clear Fo29; have Fo29 := Lib.hid rFo29; clear rFo29 q25
  have rFo31 := Fo31.out.keep hk' (by omega); clear Fo31; have Fo31 := Lib.hid rFo31; clear rFo31
  have rFo34 := Fo34.out.keep hk' (by omega); clear Fo34; have Fo34 := Lib.hid rFo34; clear rFo34
  have rFo40 := Fo40.out.keep hk' (by omega); clear Fo40; have Fo40 := Lib.hid rFo40; clear rFo40
  have rB := B.out.trans (hk'.below (B := w.heap.size) (by omega) (by omega)); clear B; have B := Lib.hid rB; clear rB
  clear hk hk'
  go_wp2_with fail
  refine (markDfa_c _ _ _ _ _ _ _ _ _ (by exact (Fo31.out)) (by omega) (by omega) (by omega)).mono ?_
  rintro e w26 ⟨rfl, q26, hk⟩
  have hk' : KeepR (w11.heap.size + 1) w12.heap.size w25 w26 := (by first | (with_reducible exact hk) | (with_reducible exact hk.up1) | (with_reducible exact hk.up1.up1))
  have z26 := hk'.size
  have c26_a0_0 : w26.cell? ⟨w.heap.size, 0, none⟩ = some (.int .i64 sy0) := hk'.cell (by simp <;> omega) c25_a0_0
  clear c25_a0_0 ac25_a0_0
  have c26_a0_1 : w26.cell? ⟨w.heap.size, 1, none⟩ = some (.int .i64 st0) := hk'.cell (by simp <;> omega) c25_a0_1
  clear c25_a0_1 ac25_a0_1
  have c26_a0_2 : w26.cell? ⟨w.heap.size, 2, none⟩ = some (.slice A0 n0 c0) := hk'.cell (by simp <;> omega) c25_a0_2
  clear c25_a0_2 ac25_a0_2
  have c26_a1_0 : w26.cell? ⟨(w.heap.size + 1), 0, none⟩ = some (.int .i64 st1) := hk'.cell (by simp <;> omega) c25_a1_0
  clear c25_a1_0 ac25_a1_0
  have c26_a1_1 : w26.cell? ⟨(w.heap.size + 1), 1, none⟩ = some (.slice A1 n1 c1) := hk'.cell (by simp <;> omega) c25_a1_1
  clear c25_a1_1 ac25_a1_1
  have c26_a2_0 : w26.cell? ⟨(w.heap.size + 1 + 1), 0, none⟩ = some (.int .i64 st2) := hk'.cell (by simp <;> omega) c25_a2_0
  clear c25_a2_0 ac25_a2_0
  have c26_a2_1 : w26.cell? ⟨(w.heap.size + 1 + 1), 1, none⟩ = some (.slice A2 n2 c2) := hk'.cell (by simp <;> omega) c25_a2_1
  clear c25_a2_1 ac25_a2_1
  have c26_a3_0 : w26.cell? ⟨(w.heap.size + 1 + 1 + 1), 0, none⟩ = some (.int .i64 st3) := hk'.cell (by simp <;> omega) c25_a3_0
  clear c25_a3_0 ac25_a3_0
  have c26_a3_1 : w26.cell? ⟨(w.heap.size + 1 + 1 + 1), 1, none⟩ = some (.slice A3 n3 c3) := hk'.cell (by simp <;> omega) c25_a3_1
  clear c25_a3_1 ac25_a3_1
  have c26_a3_2 : w26.cell? ⟨(w.heap.size + 1 + 1 + 1), 2, none⟩ = some (.slice B3 m3 d3) := hk'.cell (by simp <;> omega) c25_a3_2
  clear c25_a3_2 ac25_a3_2
  have c26_o27_0 : w26.cell? ⟨w10.heap.size, 0, none⟩ = some (.int .i64 sy0) := hk'.cell (by simp <;> omega) c25_o27_0
  clear c25_o27_0 ac25_o27_0
  have c26_o27_1 : w26.cell? ⟨w10.heap.size, 1, none⟩ = some (.int .i64 st0) := hk'.cell (by simp <;> omega) c25_o27_1
  clear c25_o27_1 ac25_o27_1
  have c26_o27_2 : w26.cell? ⟨w10.heap.size, 2, none⟩ = some (.slice (some ⟨g026, 0, none⟩) n0 n0) := hk'.cell (by simp <;> omega) c25_o27_2
  clear c25_o27_2 ac25_o27_2
  have c26_o29_0 : w26.cell? ⟨w11.heap.size, 0, none⟩ = some (.int .i64 st1) := hk'.cell (by simp <;> omega) c25_o29_0
  clear c25_o29_0 ac25_o29_0
  have c26_o29_1 : w26.cell? ⟨w11.heap.size, 1, none⟩ = some (.slice (some ⟨g28, 0, none⟩) n1 n1) := hk'.cell (by simp <;> omega) c25_o29_1
  clear c25_o29_1 ac25_o29_1
  have c26_o31_0 : w26.cell? ⟨w12.heap.size, 0, none⟩ = some (.int .i64 st2) := hk'.cell (by simp <;> omega) c25_o31_0
  clear c25_o31_0 ac25_o31_0
  have c26_o31_1 : w26.cell? ⟨w12.heap.size, 1, none⟩ = some (.slice (some ⟨g30, 0, none⟩) n2 n2) := hk'.cell (by simp <;> omega) c25_o31_1
  clear c25_o31_1 ac25_o31_1
  have c26_o34_0 : w26.cell? ⟨w13.heap.size, 0, none⟩ = some (.int .i64 st3) := hk'.cell (by simp <;> omega) c25_o34_0
  clear c25_o34_0 ac25_o34_0
  have c26_o34_1 : w26.cell? ⟨w13.heap.size, 1, none⟩ = some (.slice (some ⟨g032, 0, none⟩) n3 n3) := hk'.cell (by simp <;> omega) c25_o34_1
  clear c25_o34_1 ac25_o34_1
  have c26_o34_2 : w26.cell? ⟨w13.heap.size, 2, none⟩ = some (.slice (some ⟨g133, 0, none⟩) m3 m3) := hk'.cell (by simp <;> omega) c25_o34_2
  clear c25_o34_2 ac25_o34_2
  have ac26_a0_0 := fun o => keepa o c26_a0_0
  have ac26_a0_1 := fun o => keepa o c26_a0_1
  have ac26_a0_2 := fun o => keepa o c26_a0_2
  have ac26_a1_0 := fun o => keepa o c26_a1_0
  have ac26_a1_1 := fun o => keepa o c26_a1_1
  have ac26_a2_0 := fun o => keepa o c26_a2_0
  have ac26_a2_1 := fun o => keepa o c26_a2_1
  have ac26_a3_0 := fun o => keepa o c26_a3_0
  have ac26_a3_1 := fun o => keepa o c26_a3_1
  have ac26_a3_2 := fun o => keepa o c26_a3_2
  have ac26_o27_0 := fun o => keepa o c26_o27_0
  have ac26_o27_1 := fun o => keepa o c26_o27_1
  have ac26_o27_2 := fun o => keepa o c26_o27_2
  have ac26_o29_0 := fun o => keepa o c26_o29_0
  have ac26_o29_1 := fun o => keepa o c26_o29_1
  have ac26_o31_0 := fun o => keepa o c26_o31_0
  have ac26_o31_1 := fun o => keepa o c26_o31_1
  have ac26_o34_0 := fun o => keepa o c26_o34_0
  have ac26_o34_1 := fun o => keepa o c26_o34_1
  have ac26_o34_2 := fun o => keepa o c26_o34_2
  have rP0 := P0.out.keep hk' (by omega); clear P0; have P0 := Lib.hid rP0; clear rP0
  have rP1 := P1.out.keep hk' (by omega); clear P1; have P1 := Lib.hid rP1; clear rP1
  have rP2 := P2.out.keep hk' (by omega); clear P2; have P2 := Lib.hid rP2; clear rP2
  have rP3 := P3.out.keep hk' (by omega); clear P3; have P3 := Lib.hid rP3; clear rP3
  have rFo25 := Fo25.out.keep hk' (by omega); clear Fo25; have Fo25 := Lib.hid rFo25; clear rFo25
  have rFo27 := Fo27.out.keep hk' (by omega); clear Fo27; have Fo27 := Lib.hid rFo27; clear rFo27
  have rFo29 := Fo29.out.keep hk' (by omega); clear Fo29; have Fo29 := Lib.hid rFo29; clear rFo29
  have rFo31 := q26; clear Fo31; have Fo31 := Lib.hid rFo31; clear rFo31 q26
  have rFo34 := Fo34.out.keep hk' (by omega); clear Fo34; have Fo34 := Lib.hid rFo34; clear rFo34
  have rFo40 := Fo40.out.keep hk' (by omega); clear Fo40; have Fo40 := Lib.hid rFo40; clear rFo40
  have rB := B.out.trans (hk'.below (B := w.heap.size) (by omega) (by omega)); clear B; have B := Lib.hid rB; clear rB
  clear hk hk'
  go_wp2_with fail
  refine (markConfig_c _ _ _ _ _ _ _ _ _ _ _ _ _ (by exact (Fo34.out)) (by omega) (by omega) (by first | omega | (simp; omega)) (by omega) (by omega)).mono ?_
  rintro e w27 ⟨rfl, q27, hk⟩
  have hk' : KeepR (w12.heap.size + 1) w13.heap.size w26 w27 := (by first | (with_reducible exact hk) | (with_reducible exact hk.up1) | (with_reducible exact hk.up1.up1))
  have z27 := hk'.size
  have c27_a0_0 : w27.cell? ⟨w.heap.size, 0, none⟩ = some (.int .i64 sy0) := hk'.cell (by simp <;> omega) c26_a0_0
  clear c26_a0_0 ac26_a0_0
  have c27_a0_1 : w27.cell? ⟨w.heap.size, 1, none⟩ = some (.int .i64 st0) := hk'.cell (by simp <;> omega) c26_a0_1
  clear c26_a0_1 ac26_a0_1
  have c27_a0_2 : w27.cell? ⟨w.heap.size, 2, none⟩ = some (.slice A0 n0 c0) := hk'.cell (by simp <;> omega) c26_a0_2
  clear c26_a0_2 ac26_a0_2
  have c27_a1_0 : w27.cell? ⟨(w.heap.size + 1), 0, none⟩ = some (.int .i64 st1) := hk'.cell (by simp <;> omega) c26_a1_0
  clear c26_a1_0 ac26_a1_0
  have c27_a1_1 : w27.cell? ⟨(w.heap.size + 1), 1, none⟩ = some (.slice A1 n1 c1) := hk'.cell (by simp <;> omega) c26_a1_1
  clear c26_a1_1 ac26_a1_1
  have c27_a2_0 : w27.cell? ⟨(w.heap.size + 1 + 1), 0, none⟩ = some (.int .i64 st2) := hk'.cell (by simp <;> omega) c26_a2_0
  clear c26_a2_0 ac26_a2_0
  have c27_a2_1 : w27.cell? ⟨(w.heap.size + 1 + 1), 1, none⟩ = some (.slice A2 n2 c2) := hk'.cell (by simp <;> omega) c26_a2_1
  clear c26_a2_1 ac26_a2_1
  have c27_a3_0 : w27.cell? ⟨(w.heap.size + 1 + 1 + 1), 0, none⟩ = some (.int .i64 st3) := hk'.cell (by simp <;> omega) c26_a3_0
  clear c26_a3_0 ac26_a3_0
  have c27_a3_1 : w27.cell? ⟨(w.heap.size + 1 + 1 + 1), 1, none⟩ = some (.slice A3 n3 c3) := hk'.cell (by simp <;> omega) c26_a3_1
  clear c26_a3_1 ac26_a3_1
  have c27_a3_2 : w27.cell? ⟨(w.heap.size + 1 + 1 + 1), 2, none⟩ = some (.slice B3 m3 d3) := hk'.cell (by simp <;> omega) c26_a3_2
  clear c26_a3_2 ac26_a3_2
  have c27_o27_0 : w27.cell? ⟨w10.heap.size, 0, none⟩ = some (.int .i64 sy0) := hk'.cell (by simp <;> omega) c26_o27_0
  clear c26_o27_0 ac26_o27_0
  have c27_o27_1 : w27.cell? ⟨w10.heap.size, 1, none⟩ = some (.int .i64 st0) := hk'.cell (by simp <;> omega) c26_o27_1
  clear c26_o27_1 ac26_o27_1
  have c27_o27_2 : w27.cell? ⟨w10.heap.size, 2, none⟩ = some (.slice (some ⟨g026, 0, none⟩) n0 n0) := hk'.cell (by simp <;> omega) c26_o27_2
  clear c26_o27_2 ac26_o27_2
  have c27_o29_0 : w27.cell? ⟨w11.heap.size, 0, none⟩ = some (.int .i64 st1) := hk'.cell (by simp <;> omega) c26_o29_0
  clear c26_o29_0 ac26_o29_0
  have c27_o29_1 : w27.cell? ⟨w11.heap.size, 1, none⟩ = some (.slice (some ⟨g28, 0, none⟩) n1 n1) := hk'.cell (by simp <;> omega) c26_o29_1
  clear c26_o29_1 ac26_o29_1
  have c27_o31_0 : w27.cell? ⟨w12.heap.size, 0, none⟩ = some (.int .i64 st2) := hk'.cell (by simp <;> omega) c26_o31_0
  clear c26_o31_0 ac26_o31_0
  have c27_o31_1 : w27.cell? ⟨w12.heap.size, 1, none⟩ = some (.slice (some ⟨g30, 0, none⟩) n2 n2) := hk'.cell (by simp <;> omega) c26_o31_1
  clear c26_o31_1 ac26_o31_1
  have c27_o34_0 : w27.cell? ⟨w13.heap.size, 0, none⟩ = some (.int .i64 st3) := hk'.cell (by simp <;> omega) c26_o34_0
  clear c26_o34_0 ac26_o34_0
  have c27_o34_1 : w27.cell? ⟨w13.heap.size, 1, none⟩ = some (.slice (some ⟨g032, 0, none⟩) n3 n3) := hk'.cell (by simp <;> omega) c26_o34_1
  clear c26_o34_1 ac26_o34_1
  have c27_o34_2 : w27.cell? ⟨w13.heap.size, 2, none⟩ = some (.slice (some ⟨g133, 0, none⟩) m3 m3) := hk'.cell (by simp <;> omega) c26_o34_2
  clear c26_o34_2 ac26_o34_2
  have ac27_a0_0 := fun o => keepa o c27_a0_0
  have ac27_a0_1 := fun o => keepa o c27_a0_1
  have ac27_a0_2 := fun o => keepa o c27_a0_2
  have ac27_a1_0 := fun o => keepa o c27_a1_0
  have ac27_a1_1 := fun o => keepa o c27_a1_1
  have ac27_a2_0 := fun o => keepa o c27_a2_0
  have ac27_a2_1 := fun o => keepa o c27_a2_1
  have ac27_a3_0 := fun o => keepa o c27_a3_0
  have ac27_a3_1 := fun o => keepa o c27_a3_1
  have ac27_a3_2 := fun o => keepa o c27_a3_2
  have ac27_o27_0 := fun o => keepa o c27_o27_0
  have ac27_o27_1 := fun o => keepa o c27_o27_1
  have ac27_o27_2 := fun o => keepa o c27_o27_2
  have ac27_o29_0 := fun o => keepa o c27_o29_0
  have ac27_o29_1 := fun o => keepa o c27_o29_1
  have ac27_o31_0 := fun o => keepa o c27_o31_0
  have ac27_o31_1 := fun o => keepa o c27_o31_1
  have ac27_o34_0 := fun o => keepa o c27_o34_0
  have ac27_o34_1 := fun o => keepa o c27_o34_1
  have ac27_o34_2 := fun o => keepa o c27_o34_2
  have rP0 := P0.out.keep hk' (by omega); clear P0; have P0 := Lib.hid rP0; clear rP0
  have rP1 := P1.out.keep hk' (by omega); clear P1; have P1 := Lib.hid rP1; clear rP1
  have rP2 := P2.out.keep hk' (by omega); clear P2; have P2 := Lib.hid rP2; clear rP2
  have rP3 := P3.out.keep hk' (by omega); clear P3; have P3 := Lib.hid rP3; clear rP3
  have rFo25 := Fo25.out.keep hk' (by omega); clear Fo25; have Fo25 := Lib.hid rFo25; clear rFo25
  have rFo27 := Fo27.out.keep hk' (by omega); clear Fo27; have Fo27 := Lib.hid rFo27; clear rFo27
  have rFo29 := Fo29.out.keep hk' (by omega); clear Fo29; have Fo29 := Lib.hid rFo29; clear rFo29
  have rFo31 := Fo31.out.keep hk' (by omega); clear Fo31; have Fo31 := Lib.hid rFo31; clear rFo31
  have rFo34 := q27; clear Fo34; have Fo34 := Lib.hid rFo34; clear rFo34 q27
  have rFo40 := Fo40.out.keep hk' (by omega); clear Fo40; have Fo40 := Lib.hid rFo40; clear rFo40
  have rB := B.out.trans (hk'.below (B := w.heap.size) (by omega) (by omega)); clear B; have B := Lib.hid rB; clear rB
  clear hk hk'
  go_wp2_with fail
  refine (eqInt64S_t _ _ _ _ _ _ _ _ (by exact (Fo40.out.rdI)) (by exact (Fo25.out.rdI)) (by omega)).mono ?_
  rintro e w28 ⟨rfl, hb⟩
  have hb' : Below w27.heap.size w27 w28 := (by first | (with_reducible exact hb) | (with_reducible exact up1 hb) | (with_reducible exact up2 hb) | (with_reducible exact up3 hb) | (with_reducible exact up4 hb) | (with_reducible exact below_of_drew hb) | (with_reducible exact below_of_drew (up1 hb)))
  have z28 := hb'.size
  have c28_a0_0 : w28.cell? ⟨w.heap.size, 0, none⟩ = some (.int .i64 sy0) := keepc hb' c27_a0_0
  clear c27_a0_0 ac27_a0_0
  have c28_a0_1 : w28.cell? ⟨w.heap.size, 1, none⟩ = some (.int .i64 st0) := keepc hb' c27_a0_1
  clear c27_a0_1 ac27_a0_1
  have c28_a0_2 : w28.cell? ⟨w.heap.size, 2, none⟩ = some (.slice A0 n0 c0) := keepc hb' c27_a0_2
  clear c27_a0_2 ac27_a0_2
  have c28_a1_0 : w28.cell? ⟨(w.heap.size + 1), 0, none⟩ = some (.int .i64 st1) := keepc hb' c27_a1_0
  clear c27_a1_0 ac27_a1_0
  have c28_a1_1 : w28.cell? ⟨(w.heap.size + 1), 1, none⟩ = some (.slice A1 n1 c1) := keepc hb' c27_a1_1
  clear c27_a1_1 ac27_a1_1
  have c28_a2_0 : w28.cell? ⟨(w.heap.size + 1 + 1), 0, none⟩ = some (.int .i64 st2) := keepc hb' c27_a2_0
  clear c27_a2_0 ac27_a2_0
  have c28_a2_1 : w28.cell? ⟨(w.heap.size + 1 + 1), 1, none⟩ = some (.slice A2 n2 c2) := keepc hb' c27_a2_1
  clear c27_a2_1 ac27_a2_1
  have c28_a3_0 : w28.cell? ⟨(w.heap.size + 1 + 1 + 1), 0, none⟩ = some (.int .i64 st3) := keepc hb' c27_a3_0
  clear c27_a3_0 ac27_a3_0
  have c28_a3_1 : w28.cell? ⟨(w.heap.size + 1 + 1 + 1), 1, none⟩ = some (.slice A3 n3 c3) := keepc hb' c27_a3_1
  clear c27_a3_1 ac27_a3_1
  have c28_a3_2 : w28.cell? ⟨(w.heap.size + 1 + 1 + 1), 2, none⟩ = some (.slice B3 m3 d3) := keepc hb' c27_a3_2
  clear c27_a3_2 ac27_a3_2
  have c28_o27_0 : w28.cell? ⟨w10.heap.size, 0, none⟩ = some (.int .i64 sy0) := keepc hb' c27_o27_0
  clear c27_o27_0 ac27_o27_0
  have c28_o27_1 : w28.cell? ⟨w10.heap.size, 1, none⟩ = some (.int .i64 st0) := keepc hb' c27_o27_1
  clear c27_o27_1 ac27_o27_1
  have c28_o27_2 : w28.cell? ⟨w10.heap.size, 2, none⟩ = some (.slice (some ⟨g026, 0, none⟩) n0 n0) := keepc hb' c27_o27_2
  clear c27_o27_2 ac27_o27_2
  have c28_o29_0 : w28.cell? ⟨w11.heap.size, 0, none⟩ = some (.int .i64 st1) := keepc hb' c27_o29_0
  clear c27_o29_0 ac27_o29_0
  have c28_o29_1 : w28.cell? ⟨w11.heap.size, 1, none⟩ = some (.slice (some ⟨g28, 0, none⟩) n1 n1) := keepc hb' c27_o29_1
  clear c27_o29_1 ac27_o29_1
  have c28_o31_0 : w28.cell? ⟨w12.heap.size, 0, none⟩ = some (.int .i64 st2) := keepc hb' c27_o31_0
  clear c27_o31_0 ac27_o31_0
  have c28_o31_1 : w28.cell? ⟨w12.heap.size, 1, none⟩ = some (.slice (some ⟨g30, 0, none⟩) n2 n2) := keepc hb' c27_o31_1
  clear c27_o31_1 ac27_o31_1
  have c28_o34_0 : w28.cell? ⟨w13.heap.size, 0, none⟩ = some (.int .i64 st3) := keepc hb' c27_o34_0
  clear c27_o34_0 ac27_o34_0
  have c28_o34_1 : w28.cell? ⟨w13.heap.size, 1, none⟩ = some (.slice (some ⟨g032, 0, none⟩) n3 n3) := keepc hb' c27_o34_1
  clear c27_o34_1 ac27_o34_1
  have c28_o34_2 : w28.cell? ⟨w13.heap.size, 2, none⟩ = some (.slice (some ⟨g133, 0, none⟩) m3 m3) := keepc hb' c27_o34_2
  clear c27_o34_2 ac27_o34_2
  have ac28_a0_0 := fun o => keepa o c28_a0_0
  have ac28_a0_1 := fun o => keepa o c28_a0_1
  have ac28_a0_2 := fun o => keepa o c28_a0_2
  have ac28_a1_0 := fun o => keepa o c28_a1_0
  have ac28_a1_1 := fun o => keepa o c28_a1_1
  have ac28_a2_0 := fun o => keepa o c28_a2_0
  have ac28_a2_1 := fun o => keepa o c28_a2_1
  have ac28_a3_0 := fun o => keepa o c28_a3_0
  have ac28_a3_1 := fun o => keepa o c28_a3_1
  have ac28_a3_2 := fun o => keepa o c28_a3_2
  have ac28_o27_0 := fun o => keepa o c28_o27_0
  have ac28_o27_1 := fun o => keepa o c28_o27_1
  have ac28_o27_2 := fun o => keepa o c28_o27_2
  have ac28_o29_0 := fun o => keepa o c28_o29_0
  have ac28_o29_1 := fun o => keepa o c28_o29_1
  have ac28_o31_0 := fun o => keepa o c28_o31_0
  have ac28_o31_1 := fun o => keepa o c28_o31_1
  have ac28_o34_0 := fun o => keepa o c28_o34_0
  have ac28_o34_1 := fun o => keepa o c28_o34_1
  have ac28_o34_2 := fun o => keepa o c28_o34_2
  have rP0 := P0.out.below hb'; clear P0; have P0 := Lib.hid rP0; clear rP0
  have rP1 := P1.out.below hb'; clear P1; have P1 := Lib.hid rP1; clear rP1
  have rP2 := P2.out.below hb'; clear P2; have P2 := Lib.hid rP2; clear rP2
  have rP3 := P3.out.below hb'; clear P3; have P3 := Lib.hid rP3; clear rP3
  have rFo25 := Fo25.out.below hb'; clear Fo25; have Fo25 := Lib.hid rFo25; clear rFo25
  have rFo27 := Fo27.out.below hb'; clear Fo27; have Fo27 := Lib.hid rFo27; clear rFo27
  have rFo29 := Fo29.out.below hb'; clear Fo29; have Fo29 := Lib.hid rFo29; clear rFo29
  have rFo31 := Fo31.out.below hb'; clear Fo31; have Fo31 := Lib.hid rFo31; clear rFo31
  have rFo34 := Fo34.out.below hb'; clear Fo34; have Fo34 := Lib.hid rFo34; clear rFo34
  have rFo40 := Fo40.out.below hb'; clear Fo40; have Fo40 := Lib.hid rFo40; clear rFo40
  have rB := below_chain B.out (by omega) hb'; clear B; have B := Lib.hid rB; clear rB
  clear hb hb'
  go_wp2_with fail
  refine (markInt64S_c _ _ _ _ _ _ _ _ (by exact (Fo40.out)) (by omega) (by omega) (by omega)).mono ?_
  rintro e w29 ⟨rfl, q29, hk⟩
  have hk' : KeepR (w13.heap.size + 1) w14.heap.size w28 w29 := (by first | (with_reducible exact hk) | (with_reducible exact hk.up1) | (with_reducible exact hk.up1.up1))
  have z29 := hk'.size
  have c29_a0_0 : w29.cell? ⟨w.heap.size, 0, none⟩ = some (.int .i64 sy0) := hk'.cell (by simp <;> omega) c28_a0_0
  clear c28_a0_0 ac28_a0_0
  have c29_a0_1 : w29.cell? ⟨w.heap.size, 1, none⟩ = some (.int .i64 st0) := hk'.cell (by simp <;> omega) c28_a0_1
  clear c28_a0_1 ac28_a0_1
  have c29_a0_2 : w29.cell? ⟨w.heap.size, 2, none⟩ = some (.slice A0 n0 c0) := hk'.cell (by simp <;> omega) c28_a0_2
  clear c28_a0_2 ac28_a0_2
  have c29_a1_0 : w29.cell? ⟨(w.heap.size + 1), 0, none⟩ = some (.int .i64 st1) := hk'.cell (by simp <;> omega) c28_a1_0
  clear c28_a1_0 ac28_a1_0
  have c29_a1_1 : w29.cell? ⟨(w.heap.size + 1), 1, none⟩ = some (.slice A1 n1 c1) := hk'.cell (by simp <;> omega) c28_a1_1
  clear c28_a1_1 ac28_a1_1
  have c29_a2_0 : w29.cell? ⟨(w.heap.size + 1 + 1), 0, none⟩ = some (.int .i64 st2) := hk'.cell (by simp <;> omega) c28_a2_0
  clear c28_a2_0 ac28_a2_0
  have c29_a2_1 : w29.cell? ⟨(w.heap.size + 1 + 1), 1, none⟩ = some (.slice A2 n2 c2) := hk'.cell (by simp <;> omega) c28_a2_1
  clear c28_a2_1 ac28_a2_1
  have c29_a3_0 : w29.cell? ⟨(w.heap.size + 1 + 1 + 1), 0, none⟩ = some (.int .i64 st3) := hk'.cell (by simp <;> omega) c28_a3_0
  clear c28_a3_0 ac28_a3_0
  have c29_a3_1 : w29.cell? ⟨(w.heap.size + 1 + 1 + 1), 1, none⟩ = some (.slice A3 n3 c3) := hk'.cell (by simp <;> omega) c28_a3_1
  clear c28_a3_1 ac28_a3_1
  have c29_a3_2 : w29.cell? ⟨(w.heap.size + 1 + 1 + 1), 2, none⟩ = some (.slice B3 m3 d3) := hk'.cell (by simp <;> omega) c28_a3_2
  clear c28_a3_2 ac28_a3_2
  have c29_o27_0 : w29.cell? ⟨w10.heap.size, 0, none⟩ = some (.int .i64 sy0) := hk'.cell (by simp <;> omega) c28_o27_0
  clear c28_o27_0 ac28_o27_0
  have c29_o27_1 : w29.cell? ⟨w10.heap.size, 1, none⟩ = some (.int .i64 st0) := hk'.cell (by simp <;> omega) c28_o27_1
  clear c28_o27_1 ac28_o27_1
  have c29_o27_2 : w29.cell? ⟨w10.heap.size, 2, none⟩ = some (.slice (some ⟨g026, 0, none⟩) n0 n0) := hk'.cell (by simp <;> omega) c28_o27_2
  clear c28_o27_2 ac28_o27_2
  have c29_o29_0 : w29.cell? ⟨w11.heap.size, 0, none⟩ = some (.int .i64 st1) := hk'.cell (by simp <;> omega) c28_o29_0
  clear c28_o29_0 ac28_o29_0
  have c29_o29_1 : w29.cell? ⟨w11.heap.size, 1, none⟩ = some (.slice (some ⟨g28, 0, none⟩) n1 n1) := hk'.cell (by simp <;> omega) c28_o29_1
  clear c28_o29_1 ac28_o29_1
  have c29_o31_0 : w29.cell? ⟨w12.heap.size, 0, none⟩ = some (.int .i64 st2) := hk'.cell (by simp <;> omega) c28_o31_0
  clear c28_o31_0 ac28_o31_0
  have c29_o31_1 : w29.cell? ⟨w12.heap.size, 1, none⟩ = some (.slice (some ⟨g30, 0, none⟩) n2 n2) := hk'.cell (by simp <;> omega) c28_o31_1
  clear c28_o31_1 ac28_o31_1
  have c29_o34_0 : w29.cell? ⟨w13.heap.size, 0, none⟩ = some (.int .i64 st3) := hk'.cell (by simp <;> omega) c28_o34_0
  clear c28_o34_0 ac28_o34_0
  have c29_o34_1 : w29.cell? ⟨w13.heap.size, 1, none⟩ = some (.slice (some ⟨g032, 0, none⟩) n3 n3) := hk'.cell (by simp <;> omega) c28_o34_1
  clear c28_o34_1 ac28_o34_1
  have c29_o34_2 : w29.cell? ⟨w13.heap.size, 2, none⟩ = some (.slice (some ⟨g133, 0, none⟩) m3 m3) := hk'.cell (by simp <;> omega) c28_o34_2
  clear c28_o34_2 ac28_o34_2
  have ac29_a0_0 := fun o => keepa o c29_a0_0
  have ac29_a0_1 := fun o => keepa o c29_a0_1
  have ac29_a0_2 := fun o => keepa o c29_a0_2
  have ac29_a1_0 := fun o => keepa o c29_a1_0
  have ac29_a1_1 := fun o => keepa o c29_a1_1
  have ac29_a2_0 := fun o => keepa o c29_a2_0
  have ac29_a2_1 := fun o => keepa o c29_a2_1
  have ac29_a3_0 := fun o => keepa o c29_a3_0
  have ac29_a3_1 := fun o => keepa o c29_a3_1
  have ac29_a3_2 := fun o => keepa o c29_a3_2
  have ac29_o27_0 := fun o => keepa o c29_o27_0
  have ac29_o27_1 := fun o => keepa o c29_o27_1
  have ac29_o27_2 := fun o => keepa o c29_o27_2
  have ac29_o29_0 := fun o => keepa o c29_o29_0
  have ac29_o29_1 := fun o => keepa o c29_o29_1
  have ac29_o31_0 := fun o => keepa o c29_o31_0
  have ac29_o31_1 := fun o => keepa o c29_o31_1
  have ac29_o34_0 := fun o => keepa o c29_o34_0
  have ac29_o34_1 := fun o => keepa o c29_o34_1
  have ac29_o34_2 := fun o => keepa o c29_o34_2
  have rP0 := P0.out.keep hk' (by omega); clear P0; have P0 := Lib.hid rP0; clear rP0
  have rP1 := P1.out.keep hk' (by omega); clear P1; have P1 := Lib.hid rP1; clear rP1
  have rP2 := P2.out.keep hk' (by omega); clear P2; have P2 := Lib.hid rP2; clear rP2
  have rP3 := P3.out.keep hk' (by omega); clear P3; have P3 := Lib.hid rP3; clear rP3
  have rFo25 := Fo25.out.keep hk' (by omega); clear Fo25; have Fo25 := Lib.hid rFo25; clear rFo25
  have rFo27 := Fo27.out.keep hk' (by omega); clear Fo27; have Fo27 := Lib.hid rFo27; clear rFo27
  have rFo29 := Fo29.out.keep hk' (by omega); clear Fo29; have Fo29 := Lib.hid rFo29; clear rFo29
  have rFo31 := Fo31.out.keep hk' (by omega); clear Fo31; have Fo31 := Lib.hid rFo31; clear rFo31
  have rFo34 := Fo34.out.keep hk' (by omega); clear Fo34; have Fo34 := Lib.hid rFo34; clear rFo34
  have rFo40 := q29; clear Fo40; have Fo40 := Lib.hid rFo40; clear rFo40 q29
  have rB := B.out.trans (hk'.below (B := w.heap.size) (by omega) (by omega)); clear B; have B := Lib.hid rB; clear rB
  clear hk hk'
  go_wp2_with fail
  refine (heldInt64S_c _ _ _ _ _ (by exact (Fo40.out.rdI)) (by omega) (by omega) (by omega)).mono ?_
  rintro e w30 ⟨rfl, hb⟩
  have hb' : Below w29.heap.size w29 w30 := (by first | (with_reducible exact hb) | (with_reducible exact up1 hb) | (with_reducible exact up2 hb) | (with_reducible exact up3 hb) | (with_reducible exact up4 hb) | (with_reducible exact below_of_drew hb) | (with_reducible exact below_of_drew (up1 hb)))
  have z30 := hb'.size
  have c30_a0_0 : w30.cell? ⟨w.heap.size, 0, none⟩ = some (.int .i64 sy0) := keepc hb' c29_a0_0
  clear c29_a0_0 ac29_a0_0
  have c30_a0_1 : w30.cell? ⟨w.heap.size, 1, none⟩ = some (.int .i64 st0) := keepc hb' c29_a0_1
  clear c29_a0_1 ac29_a0_1
  have c30_a0_2 : w30.cell? ⟨w.heap.size, 2, none⟩ = some (.slice A0 n0 c0) := keepc hb' c29_a0_2
  clear c29_a0_2 ac29_a0_2
  have c30_a1_0 : w30.cell? ⟨(w.heap.size + 1), 0, none⟩ = some (.int .i64 st1) := keepc hb' c29_a1_0
  clear c29_a1_0 ac29_a1_0
  have c30_a1_1 : w30.cell? ⟨(w.heap.size + 1), 1, none⟩ = some (.slice A1 n1 c1) := keepc hb' c29_a1_1
  clear c29_a1_1 ac29_a1_1
  have c30_a2_0 : w30.cell? ⟨(w.heap.size + 1 + 1), 0, none⟩ = some (.int .i64 st2) := keepc hb' c29_a2_0
  clear c29_a2_0 ac29_a2_0
  have c30_a2_1 : w30.cell? ⟨(w.heap.size + 1 + 1), 1, none⟩ = some (.slice A2 n2 c2) := keepc hb' c29_a2_1
  clear c29_a2_1 ac29_a2_1
  have c30_a3_0 : w30.cell? ⟨(w.heap.size + 1 + 1 + 1), 0, none⟩ = some (.int .i64 st3) := keepc hb' c29_a3_0
  clear c29_a3_0 ac29_a3_0
  have c30_a3_1 : w30.cell? ⟨(w.heap.size + 1 + 1 + 1), 1, none⟩ = some (.slice A3 n3 c3) := keepc hb' c29_a3_1
  clear c29_a3_1 ac29_a3_1
  have c30_a3_2 : w30.cell? ⟨(w.heap.size + 1 + 1 + 1), 2, none⟩ = some (.slice B3 m3 d3) := keepc hb' c29_a3_2
  clear c29_a3_2 ac29_a3_2
  have c30_o27_0 : w30.cell? ⟨w10.heap.size, 0, none⟩ = some (.int .i64 sy0) := keepc hb' c29_o27_0
  clear c29_o27_0 ac29_o27_0
  have c30_o27_1 : w30.cell? ⟨w10.heap.size, 1, none⟩ = some (.int .i64 st0) := keepc hb' c29_o27_1
  clear c29_o27_1 ac29_o27_1
  have c30_o27_2 : w30.cell? ⟨w10.heap.size, 2, none⟩ = some (.slice (some ⟨g026, 0, none⟩) n0 n0) := keepc hb' c29_o27_2
  clear c29_o27_2 ac29_o27_2
  have c30_o29_0 : w30.cell? ⟨w11.heap.size, 0, none⟩ = some (.int .i64 st1) := keepc hb' c29_o29_0
  clear c29_o29_0 ac29_o29_0
  have c30_o29_1 : w30.cell? ⟨w11.heap.size, 1, none⟩ = some (.slice (some ⟨g28, 0, none⟩) n1 n1) := keepc hb' c29_o29_1
  clear c29_o29_1 ac29_o29_1
  have c30_o31_0 : w30.cell? ⟨w12.heap.size, 0, none⟩ = some (.int .i64 st2) := keepc hb' c29_o31_0
  clear c29_o31_0 ac29_o31_0
  have c30_o31_1 : w30.cell? ⟨w12.heap.size, 1, none⟩ = some (.slice (some ⟨g30, 0, none⟩) n2 n2) := keepc hb' c29_o31_1
  clear c29_o31_1 ac29_o31_1
  have c30_o34_0 : w30.cell? ⟨w13.heap.size, 0, none⟩ = some (.int .i64 st3) := keepc hb' c29_o34_0
  clear c29_o34_0 ac29_o34_0
  have c30_o34_1 : w30.cell? ⟨w13.heap.size, 1, none⟩ = some (.slice (some ⟨g032, 0, none⟩) n3 n3) := keepc hb' c29_o34_1
  clear c29_o34_1 ac29_o34_1
  have c30_o34_2 : w30.cell? ⟨w13.heap.size, 2, none⟩ = some (.slice (some ⟨g133, 0, none⟩) m3 m3) := keepc hb' c29_o34_2
  clear c29_o34_2 ac29_o34_2
  have ac30_a0_0 := fun o => keepa o c30_a0_0
  have ac30_a0_1 := fun o => keepa o c30_a0_1
  have ac30_a0_2 := fun o => keepa o c30_a0_2
  have ac30_a1_0 := fun o => keepa o c30_a1_0
  have ac30_a1_1 := fun o => keepa o c30_a1_1
  have ac30_a2_0 := fun o => keepa o c30_a2_0
  have ac30_a2_1 := fun o => keepa o c30_a2_1
  have ac30_a3_0 := fun o => keepa o c30_a3_0
  have ac30_a3_1 := fun o => keepa o c30_a3_1
  have ac30_a3_2 := fun o => keepa o c30_a3_2
  have ac30_o27_0 := fun o => keepa o c30_o27_0
  have ac30_o27_1 := fun o => keepa o c30_o27_1
  have ac30_o27_2 := fun o => keepa o c30_o27_2
  have ac30_o29_0 := fun o => keepa o c30_o29_0
  have ac30_o29_1 := fun o => keepa o c30_o29_1
  have ac30_o31_0 := fun o => keepa o c30_o31_0
  have ac30_o31_1 := fun o => keepa o c30_o31_1
  have ac30_o34_0 := fun o => keepa o c30_o34_0
  have ac30_o34_1 := fun o => keepa o c30_o34_1
  have ac30_o34_2 := fun o => keepa o c30_o34_2
  have rP0 := P0.out.below hb'; clear P0; have P0 := Lib.hid rP0; clear rP0
  have rP1 := P1.out.below hb'; clear P1; have P1 := Lib.hid rP1; clear rP1
  have rP2 := P2.out.below hb'; clear P2; have P2 := Lib.hid rP2; clear rP2
  have rP3 := P3.out.below hb'; clear P3; have P3 := Lib.hid rP3; clear rP3
  have rFo25 := Fo25.out.below hb'; clear Fo25; have Fo25 := Lib.hid rFo25; clear rFo25
  have rFo27 := Fo27.out.below hb'; clear Fo27; have Fo27 := Lib.hid rFo27; clear rFo27
  have rFo29 := Fo29.out.below hb'; clear Fo29; have Fo29 := Lib.hid rFo29; clear rFo29
  have rFo31 := Fo31.out.below hb'; clear Fo31; have Fo31 := Lib.hid rFo31; clear rFo31
  have rFo34 := Fo34.out.below hb'; clear Fo34; have Fo34 := Lib.hid rFo34; clear rFo34
  have rFo40 := Fo40.out.below hb'; clear Fo40; have Fo40 := Lib.hid rFo40; clear rFo40
  have rB := below_chain B.out (by omega) hb'; clear B; have B := Lib.hid rB; clear rB
  clear hb hb'
  go_wp2_with fail
  have fx_c30_a0_0 := Ext.cell c30_a0_0
  have fx_c30_a0_1 := Ext.cell c30_a0_1
  have fx_c30_a0_2 := Ext.cell c30_a0_2
  have fx_c30_a1_0 := Ext.cell c30_a1_0
  have fx_c30_a1_1 := Ext.cell c30_a1_1
  have fx_c30_a2_0 := Ext.cell c30_a2_0
  have fx_c30_a2_1 := Ext.cell c30_a2_1
  have fx_c30_a3_0 := Ext.cell c30_a3_0
  have fx_c30_a3_1 := Ext.cell c30_a3_1
  have fx_c30_a3_2 := Ext.cell c30_a3_2
  have fx_c30_o27_0 := Ext.cell c30_o27_0
  have fx_c30_o27_1 := Ext.cell c30_o27_1
  have fx_c30_o27_2 := Ext.cell c30_o27_2
  have fx_c30_o29_0 := Ext.cell c30_o29_0
  have fx_c30_o29_1 := Ext.cell c30_o29_1
  have fx_c30_o31_0 := Ext.cell c30_o31_0
  have fx_c30_o31_1 := Ext.cell c30_o31_1
  have fx_c30_o34_0 := Ext.cell c30_o34_0
  have fx_c30_o34_1 := Ext.cell c30_o34_1
  have fx_c30_o34_2 := Ext.cell c30_o34_2
  refine Mix.wp_region_mix [3, 1, 3, 1, 3, 1, 3, 1, 1, 0, 0, 0, 0, 0] (fun w' => ∃ x : Ext w30, w' = x.w) (by kernel_rfl) (by kernel_rfl) (InExt.drew _) ?_
  repeat (first | (refine Mix.wpMix_read (by rfl) ?_; go_big_quiet_step (fail); refine wpQuiet_nil ?_) | (refine Mix.wpMix_pure (by rfl) ?_; go_big_quiet_step (fail); refine wpQuiet_nil ?_))
  refine Mix.wpMix_chg (by rfl) (fun K hK => ?_)
  go_wp2_with fail
  refine (toMachine_c _ _ _ _ _ _ _ (by exact (P0.out.rd)) (by omega)).mono ?_
  rintro e w31 ⟨g050, rfl, q31, hb⟩
  have hb' : Below w30.heap.size w30 w31 := (by first | (with_reducible exact hb) | (with_reducible exact up1 hb) | (with_reducible exact up2 hb) | (with_reducible exact up3 hb) | (with_reducible exact up4 hb) | (with_reducible exact below_of_drew hb) | (with_reducible exact below_of_drew (up1 hb)))
  have z31 := hb'.size
  have c31_a0_0 : w31.cell? ⟨w.heap.size, 0, none⟩ = some (.int .i64 sy0) := keepc hb' c30_a0_0
  clear c30_a0_0 ac30_a0_0
  have c31_a0_1 : w31.cell? ⟨w.heap.size, 1, none⟩ = some (.int .i64 st0) := keepc hb' c30_a0_1
  clear c30_a0_1 ac30_a0_1
  have c31_a0_2 : w31.cell? ⟨w.heap.size, 2, none⟩ = some (.slice A0 n0 c0) := keepc hb' c30_a0_2
  clear c30_a0_2 ac30_a0_2
  have c31_a1_0 : w31.cell? ⟨(w.heap.size + 1), 0, none⟩ = some (.int .i64 st1) := keepc hb' c30_a1_0
  clear c30_a1_0 ac30_a1_0
  have c31_a1_1 : w31.cell? ⟨(w.heap.size + 1), 1, none⟩ = some (.slice A1 n1 c1) := keepc hb' c30_a1_1
  clear c30_a1_1 ac30_a1_1
  have c31_a2_0 : w31.cell? ⟨(w.heap.size + 1 + 1), 0, none⟩ = some (.int .i64 st2) := keepc hb' c30_a2_0
  clear c30_a2_0 ac30_a2_0
  have c31_a2_1 : w31.cell? ⟨(w.heap.size + 1 + 1), 1, none⟩ = some (.slice A2 n2 c2) := keepc hb' c30_a2_1
  clear c30_a2_1 ac30_a2_1
  have c31_a3_0 : w31.cell? ⟨(w.heap.size + 1 + 1 + 1), 0, none⟩ = some (.int .i64 st3) := keepc hb' c30_a3_0
  clear c30_a3_0 ac30_a3_0
  have c31_a3_1 : w31.cell? ⟨(w.heap.size + 1 + 1 + 1), 1, none⟩ = some (.slice A3 n3 c3) := keepc hb' c30_a3_1
  clear c30_a3_1 ac30_a3_1
  have c31_a3_2 : w31.cell? ⟨(w.heap.size + 1 + 1 + 1), 2, none⟩ = some (.slice B3 m3 d3) := keepc hb' c30_a3_2
  clear c30_a3_2 ac30_a3_2
  have c31_o27_0 : w31.cell? ⟨w10.heap.size, 0, none⟩ = some (.int .i64 sy0) := keepc hb' c30_o27_0
  clear c30_o27_0 ac30_o27_0
  have c31_o27_1 : w31.cell? ⟨w10.heap.size, 1, none⟩ = some (.int .i64 st0) := keepc hb' c30_o27_1
  clear c30_o27_1 ac30_o27_1
  have c31_o27_2 : w31.cell? ⟨w10.heap.size, 2, none⟩ = some (.slice (some ⟨g026, 0, none⟩) n0 n0) := keepc hb' c30_o27_2
  clear c30_o27_2 ac30_o27_2
  have c31_o29_0 : w31.cell? ⟨w11.heap.size, 0, none⟩ = some (.int .i64 st1) := keepc hb' c30_o29_0
  clear c30_o29_0 ac30_o29_0
  have c31_o29_1 : w31.cell? ⟨w11.heap.size, 1, none⟩ = some (.slice (some ⟨g28, 0, none⟩) n1 n1) := keepc hb' c30_o29_1
  clear c30_o29_1 ac30_o29_1
  have c31_o31_0 : w31.cell? ⟨w12.heap.size, 0, none⟩ = some (.int .i64 st2) := keepc hb' c30_o31_0
  clear c30_o31_0 ac30_o31_0
  have c31_o31_1 : w31.cell? ⟨w12.heap.size, 1, none⟩ = some (.slice (some ⟨g30, 0, none⟩) n2 n2) := keepc hb' c30_o31_1
  clear c30_o31_1 ac30_o31_1
  have c31_o34_0 : w31.cell? ⟨w13.heap.size, 0, none⟩ = some (.int .i64 st3) := keepc hb' c30_o34_0
  clear c30_o34_0 ac30_o34_0
  have c31_o34_1 : w31.cell? ⟨w13.heap.size, 1, none⟩ = some (.slice (some ⟨g032, 0, none⟩) n3 n3) := keepc hb' c30_o34_1
  clear c30_o34_1 ac30_o34_1
  have c31_o34_2 : w31.cell? ⟨w13.heap.size, 2, none⟩ = some (.slice (some ⟨g133, 0, none⟩) m3 m3) := keepc hb' c30_o34_2
  clear c30_o34_2 ac30_o34_2
  have ac31_a0_0 := fun o => keepa o c31_a0_0
  have ac31_a0_1 := fun o => keepa o c31_a0_1
  have ac31_a0_2 := fun o => keepa o c31_a0_2
  have ac31_a1_0 := fun o => keepa o c31_a1_0
  have ac31_a1_1 := fun o => keepa o c31_a1_1
  have ac31_a2_0 := fun o => keepa o c31_a2_0
  have ac31_a2_1 := fun o => keepa o c31_a2_1
  have ac31_a3_0 := fun o => keepa o c31_a3_0
  have ac31_a3_1 := fun o => keepa o c31_a3_1
  have ac31_a3_2 := fun o => keepa o c31_a3_2
  have ac31_o27_0 := fun o => keepa o c31_o27_0
  have ac31_o27_1 := fun o => keepa o c31_o27_1
  have ac31_o27_2 := fun o => keepa o c31_o27_2
  have ac31_o29_0 := fun o => keepa o c31_o29_0
  have ac31_o29_1 := fun o => keepa o c31_o29_1
  have ac31_o31_0 := fun o => keepa o c31_o31_0
  have ac31_o31_1 := fun o => keepa o c31_o31_1
  have ac31_o34_0 := fun o => keepa o c31_o34_0
  have ac31_o34_1 := fun o => keepa o c31_o34_1
  have ac31_o34_2 := fun o => keepa o c31_o34_2
  have rP0 := P0.out.below hb'; clear P0; have P0 := Lib.hid rP0; clear rP0
  have rP1 := P1.out.below hb'; clear P1; have P1 := Lib.hid rP1; clear rP1
  have rP2 := P2.out.below hb'; clear P2; have P2 := Lib.hid rP2; clear rP2
  have rP3 := P3.out.below hb'; clear P3; have P3 := Lib.hid rP3; clear rP3
  have rFo25 := Fo25.out.below hb'; clear Fo25; have Fo25 := Lib.hid rFo25; clear rFo25
  have rFo27 := Fo27.out.below hb'; clear Fo27; have Fo27 := Lib.hid rFo27; clear rFo27
  have rFo29 := Fo29.out.below hb'; clear Fo29; have Fo29 := Lib.hid rFo29; clear rFo29
  have rFo31 := Fo31.out.below hb'; clear Fo31; have Fo31 := Lib.hid rFo31; clear rFo31
  have rFo34 := Fo34.out.below hb'; clear Fo34; have Fo34 := Lib.hid rFo34; clear rFo34
  have rFo40 := Fo40.out.below hb'; clear Fo40; have Fo40 := Lib.hid rFo40; clear rFo40
  have rB := below_chain B.out (by omega) hb'; clear B; have B := Lib.hid rB; clear rB
  have Fo51 := Lib.hid q31; clear q31
  have em31 : Below w30.heap.size w30 w31 := hb'
  clear hb hb'
  go_wp2_with fail
  refine hK _ _ ⟨⟨_, em31⟩, rfl⟩ ?_
  clear hK K
  repeat (first | (refine Mix.wpMix_read (by rfl) ?_; go_big_quiet_step (fail); refine wpQuiet_nil ?_) | (refine Mix.wpMix_pure (by rfl) ?_; go_big_quiet_step (fail); refine wpQuiet_nil ?_))
  refine Mix.wpMix_chg (by rfl) (fun K hK => ?_)
  go_wp2_with fail
  refine (toDfa_c _ _ _ _ _ _ (by exact (P1.out.1)) (by omega)).mono ?_
  rintro e w32 ⟨g52, rfl, q32, hb⟩
  have hb' : Below w31.heap.size w31 w32 := (by first | (with_reducible exact hb) | (with_reducible exact up1 hb) | (with_reducible exact up2 hb) | (with_reducible exact up3 hb) | (with_reducible exact up4 hb) | (with_reducible exact below_of_drew hb) | (with_reducible exact below_of_drew (up1 hb)))
  have z32 := hb'.size
  have c32_a0_0 : w32.cell? ⟨w.heap.size, 0, none⟩ = some (.int .i64 sy0) := keepc hb' c31_a0_0
  clear c31_a0_0 ac31_a0_0
  have c32_a0_1 : w32.cell? ⟨w.heap.size, 1, none⟩ = some (.int .i64 st0) := keepc hb' c31_a0_1
  clear c31_a0_1 ac31_a0_1
  have c32_a0_2 : w32.cell? ⟨w.heap.size, 2, none⟩ = some (.slice A0 n0 c0) := keepc hb' c31_a0_2
  clear c31_a0_2 ac31_a0_2
  have c32_a1_0 : w32.cell? ⟨(w.heap.size + 1), 0, none⟩ = some (.int .i64 st1) := keepc hb' c31_a1_0
  clear c31_a1_0 ac31_a1_0
  have c32_a1_1 : w32.cell? ⟨(w.heap.size + 1), 1, none⟩ = some (.slice A1 n1 c1) := keepc hb' c31_a1_1
  clear c31_a1_1 ac31_a1_1
  have c32_a2_0 : w32.cell? ⟨(w.heap.size + 1 + 1), 0, none⟩ = some (.int .i64 st2) := keepc hb' c31_a2_0
  clear c31_a2_0 ac31_a2_0
  have c32_a2_1 : w32.cell? ⟨(w.heap.size + 1 + 1), 1, none⟩ = some (.slice A2 n2 c2) := keepc hb' c31_a2_1
  clear c31_a2_1 ac31_a2_1
  have c32_a3_0 : w32.cell? ⟨(w.heap.size + 1 + 1 + 1), 0, none⟩ = some (.int .i64 st3) := keepc hb' c31_a3_0
  clear c31_a3_0 ac31_a3_0
  have c32_a3_1 : w32.cell? ⟨(w.heap.size + 1 + 1 + 1), 1, none⟩ = some (.slice A3 n3 c3) := keepc hb' c31_a3_1
  clear c31_a3_1 ac31_a3_1
  have c32_a3_2 : w32.cell? ⟨(w.heap.size + 1 + 1 + 1), 2, none⟩ = some (.slice B3 m3 d3) := keepc hb' c31_a3_2
  clear c31_a3_2 ac31_a3_2
  have c32_o27_0 : w32.cell? ⟨w10.heap.size, 0, none⟩ = some (.int .i64 sy0) := keepc hb' c31_o27_0
  clear c31_o27_0 ac31_o27_0
  have c32_o27_1 : w32.cell? ⟨w10.heap.size, 1, none⟩ = some (.int .i64 st0) := keepc hb' c31_o27_1
  clear c31_o27_1 ac31_o27_1
  have c32_o27_2 : w32.cell? ⟨w10.heap.size, 2, none⟩ = some (.slice (some ⟨g026, 0, none⟩) n0 n0) := keepc hb' c31_o27_2
  clear c31_o27_2 ac31_o27_2
  have c32_o29_0 : w32.cell? ⟨w11.heap.size, 0, none⟩ = some (.int .i64 st1) := keepc hb' c31_o29_0
  clear c31_o29_0 ac31_o29_0
  have c32_o29_1 : w32.cell? ⟨w11.heap.size, 1, none⟩ = some (.slice (some ⟨g28, 0, none⟩) n1 n1) := keepc hb' c31_o29_1
  clear c31_o29_1 ac31_o29_1
  have c32_o31_0 : w32.cell? ⟨w12.heap.size, 0, none⟩ = some (.int .i64 st2) := keepc hb' c31_o31_0
  clear c31_o31_0 ac31_o31_0
  have c32_o31_1 : w32.cell? ⟨w12.heap.size, 1, none⟩ = some (.slice (some ⟨g30, 0, none⟩) n2 n2) := keepc hb' c31_o31_1
  clear c31_o31_1 ac31_o31_1
  have c32_o34_0 : w32.cell? ⟨w13.heap.size, 0, none⟩ = some (.int .i64 st3) := keepc hb' c31_o34_0
  clear c31_o34_0 ac31_o34_0
  have c32_o34_1 : w32.cell? ⟨w13.heap.size, 1, none⟩ = some (.slice (some ⟨g032, 0, none⟩) n3 n3) := keepc hb' c31_o34_1
  clear c31_o34_1 ac31_o34_1
  have c32_o34_2 : w32.cell? ⟨w13.heap.size, 2, none⟩ = some (.slice (some ⟨g133, 0, none⟩) m3 m3) := keepc hb' c31_o34_2
  clear c31_o34_2 ac31_o34_2
  have ac32_a0_0 := fun o => keepa o c32_a0_0
  have ac32_a0_1 := fun o => keepa o c32_a0_1
  have ac32_a0_2 := fun o => keepa o c32_a0_2
  have ac32_a1_0 := fun o => keepa o c32_a1_0
  have ac32_a1_1 := fun o => keepa o c32_a1_1
  have ac32_a2_0 := fun o => keepa o c32_a2_0
  have ac32_a2_1 := fun o => keepa o c32_a2_1
  have ac32_a3_0 := fun o => keepa o c32_a3_0
  have ac32_a3_1 := fun o => keepa o c32_a3_1
  have ac32_a3_2 := fun o => keepa o c32_a3_2
  have ac32_o27_0 := fun o => keepa o c32_o27_0
  have ac32_o27_1 := fun o => keepa o c32_o27_1
  have ac32_o27_2 := fun o => keepa o c32_o27_2
  have ac32_o29_0 := fun o => keepa o c32_o29_0
  have ac32_o29_1 := fun o => keepa o c32_o29_1
  have ac32_o31_0 := fun o => keepa o c32_o31_0
  have ac32_o31_1 := fun o => keepa o c32_o31_1
  have ac32_o34_0 := fun o => keepa o c32_o34_0
  have ac32_o34_1 := fun o => keepa o c32_o34_1
  have ac32_o34_2 := fun o => keepa o c32_o34_2
  have rP0 := P0.out.below hb'; clear P0; have P0 := Lib.hid rP0; clear rP0
  have rP1 := P1.out.below hb'; clear P1; have P1 := Lib.hid rP1; clear rP1
  have rP2 := P2.out.below hb'; clear P2; have P2 := Lib.hid rP2; clear rP2
  have rP3 := P3.out.below hb'; clear P3; have P3 := Lib.hid rP3; clear rP3
  have rFo25 := Fo25.out.below hb'; clear Fo25; have Fo25 := Lib.hid rFo25; clear rFo25
  have rFo27 := Fo27.out.below hb'; clear Fo27; have Fo27 := Lib.hid rFo27; clear rFo27
  have rFo29 := Fo29.out.below hb'; clear Fo29; have Fo29 := Lib.hid rFo29; clear rFo29
  have rFo31 := Fo31.out.below hb'; clear Fo31; have Fo31 := Lib.hid rFo31; clear rFo31
  have rFo34 := Fo34.out.below hb'; clear Fo34; have Fo34 := Lib.hid rFo34; clear rFo34
  have rFo40 := Fo40.out.below hb'; clear Fo40; have Fo40 := Lib.hid rFo40; clear rFo40
  have rFo51 := Fo51.out.below hb'; clear Fo51; have Fo51 := Lib.hid rFo51; clear rFo51
  have rB := below_chain B.out (by omega) hb'; clear B; have B := Lib.hid rB; clear rB
  have Fo53 := Lib.hid q32; clear q32
  have em32 : Below w30.heap.size w30 w32 := below_chain em31 (by omega) hb'
  clear hb hb'
  go_wp2_with fail
  refine hK _ _ ⟨⟨_, em32⟩, rfl⟩ ?_
  clear hK K
  repeat (first | (refine Mix.wpMix_read (by rfl) ?_; go_big_quiet_step (fail); refine wpQuiet_nil ?_) | (refine Mix.wpMix_pure (by rfl) ?_; go_big_quiet_step (fail); refine wpQuiet_nil ?_))
  refine Mix.wpMix_chg (by rfl) (fun K hK => ?_)
  go_wp2_with fail
  refine (toDfa_c _ _ _ _ _ _ (by exact (P2.out.1)) (by omega)).mono ?_
  rintro e w33 ⟨g54, rfl, q33, hb⟩
  have hb' : Below w32.heap.size w32 w33 := (by first | (with_reducible exact hb) | (with_reducible exact up1 hb) | (with_reducible exact up2 hb) | (with_reducible exact up3 hb) | (with_reducible exact up4 hb) | (with_reducible exact below_of_drew hb) | (with_reducible exact below_of_drew (up1 hb)))
  have z33 := hb'.size
  have c33_a0_0 : w33.cell? ⟨w.heap.size, 0, none⟩ = some (.int .i64 sy0) := keepc hb' c32_a0_0
  clear c32_a0_0 ac32_a0_0
  have c33_a0_1 : w33.cell? ⟨w.heap.size, 1, none⟩ = some (.int .i64 st0) := keepc hb' c32_a0_1
  clear c32_a0_1 ac32_a0_1
  have c33_a0_2 : w33.cell? ⟨w.heap.size, 2, none⟩ = some (.slice A0 n0 c0) := keepc hb' c32_a0_2
  clear c32_a0_2 ac32_a0_2
  have c33_a1_0 : w33.cell? ⟨(w.heap.size + 1), 0, none⟩ = some (.int .i64 st1) := keepc hb' c32_a1_0
  clear c32_a1_0 ac32_a1_0
  have c33_a1_1 : w33.cell? ⟨(w.heap.size + 1), 1, none⟩ = some (.slice A1 n1 c1) := keepc hb' c32_a1_1
  clear c32_a1_1 ac32_a1_1
  have c33_a2_0 : w33.cell? ⟨(w.heap.size + 1 + 1), 0, none⟩ = some (.int .i64 st2) := keepc hb' c32_a2_0
  clear c32_a2_0 ac32_a2_0
  have c33_a2_1 : w33.cell? ⟨(w.heap.size + 1 + 1), 1, none⟩ = some (.slice A2 n2 c2) := keepc hb' c32_a2_1
  clear c32_a2_1 ac32_a2_1
  have c33_a3_0 : w33.cell? ⟨(w.heap.size + 1 + 1 + 1), 0, none⟩ = some (.int .i64 st3) := keepc hb' c32_a3_0
  clear c32_a3_0 ac32_a3_0
  have c33_a3_1 : w33.cell? ⟨(w.heap.size + 1 + 1 + 1), 1, none⟩ = some (.slice A3 n3 c3) := keepc hb' c32_a3_1
  clear c32_a3_1 ac32_a3_1
  have c33_a3_2 : w33.cell? ⟨(w.heap.size + 1 + 1 + 1), 2, none⟩ = some (.slice B3 m3 d3) := keepc hb' c32_a3_2
  clear c32_a3_2 ac32_a3_2
  have c33_o27_0 : w33.cell? ⟨w10.heap.size, 0, none⟩ = some (.int .i64 sy0) := keepc hb' c32_o27_0
  clear c32_o27_0 ac32_o27_0
  have c33_o27_1 : w33.cell? ⟨w10.heap.size, 1, none⟩ = some (.int .i64 st0) := keepc hb' c32_o27_1
  clear c32_o27_1 ac32_o27_1
  have c33_o27_2 : w33.cell? ⟨w10.heap.size, 2, none⟩ = some (.slice (some ⟨g026, 0, none⟩) n0 n0) := keepc hb' c32_o27_2
  clear c32_o27_2 ac32_o27_2
  have c33_o29_0 : w33.cell? ⟨w11.heap.size, 0, none⟩ = some (.int .i64 st1) := keepc hb' c32_o29_0
  clear c32_o29_0 ac32_o29_0
  have c33_o29_1 : w33.cell? ⟨w11.heap.size, 1, none⟩ = some (.slice (some ⟨g28, 0, none⟩) n1 n1) := keepc hb' c32_o29_1
  clear c32_o29_1 ac32_o29_1
  have c33_o31_0 : w33.cell? ⟨w12.heap.size, 0, none⟩ = some (.int .i64 st2) := keepc hb' c32_o31_0
  clear c32_o31_0 ac32_o31_0
  have c33_o31_1 : w33.cell? ⟨w12.heap.size, 1, none⟩ = some (.slice (some ⟨g30, 0, none⟩) n2 n2) := keepc hb' c32_o31_1
  clear c32_o31_1 ac32_o31_1
  have c33_o34_0 : w33.cell? ⟨w13.heap.size, 0, none⟩ = some (.int .i64 st3) := keepc hb' c32_o34_0
  clear c32_o34_0 ac32_o34_0
  have c33_o34_1 : w33.cell? ⟨w13.heap.size, 1, none⟩ = some (.slice (some ⟨g032, 0, none⟩) n3 n3) := keepc hb' c32_o34_1
  clear c32_o34_1 ac32_o34_1
  have c33_o34_2 : w33.cell? ⟨w13.heap.size, 2, none⟩ = some (.slice (some ⟨g133, 0, none⟩) m3 m3) := keepc hb' c32_o34_2
  clear c32_o34_2 ac32_o34_2
  have ac33_a0_0 := fun o => keepa o c33_a0_0
  have ac33_a0_1 := fun o => keepa o c33_a0_1
  have ac33_a0_2 := fun o => keepa o c33_a0_2
  have ac33_a1_0 := fun o => keepa o c33_a1_0
  have ac33_a1_1 := fun o => keepa o c33_a1_1
  have ac33_a2_0 := fun o => keepa o c33_a2_0
  have ac33_a2_1 := fun o => keepa o c33_a2_1
  have ac33_a3_0 := fun o => keepa o c33_a3_0
  have ac33_a3_1 := fun o => keepa o c33_a3_1
  have ac33_a3_2 := fun o => keepa o c33_a3_2
  have ac33_o27_0 := fun o => keepa o c33_o27_0
  have ac33_o27_1 := fun o => keepa o c33_o27_1
  have ac33_o27_2 := fun o => keepa o c33_o27_2
  have ac33_o29_0 := fun o => keepa o c33_o29_0
  have ac33_o29_1 := fun o => keepa o c33_o29_1
  have ac33_o31_0 := fun o => keepa o c33_o31_0
  have ac33_o31_1 := fun o => keepa o c33_o31_1
  have ac33_o34_0 := fun o => keepa o c33_o34_0
  have ac33_o34_1 := fun o => keepa o c33_o34_1
  have ac33_o34_2 := fun o => keepa o c33_o34_2
  have rP0 := P0.out.below hb'; clear P0; have P0 := Lib.hid rP0; clear rP0
  have rP1 := P1.out.below hb'; clear P1; have P1 := Lib.hid rP1; clear rP1
  have rP2 := P2.out.below hb'; clear P2; have P2 := Lib.hid rP2; clear rP2
  have rP3 := P3.out.below hb'; clear P3; have P3 := Lib.hid rP3; clear rP3
  have rFo25 := Fo25.out.below hb'; clear Fo25; have Fo25 := Lib.hid rFo25; clear rFo25
  have rFo27 := Fo27.out.below hb'; clear Fo27; have Fo27 := Lib.hid rFo27; clear rFo27
  have rFo29 := Fo29.out.below hb'; clear Fo29; have Fo29 := Lib.hid rFo29; clear rFo29
  have rFo31 := Fo31.out.below hb'; clear Fo31; have Fo31 := Lib.hid rFo31; clear rFo31
  have rFo34 := Fo34.out.below hb'; clear Fo34; have Fo34 := Lib.hid rFo34; clear rFo34
  have rFo40 := Fo40.out.below hb'; clear Fo40; have Fo40 := Lib.hid rFo40; clear rFo40
  have rFo51 := Fo51.out.below hb'; clear Fo51; have Fo51 := Lib.hid rFo51; clear rFo51
  have rFo53 := Fo53.out.below hb'; clear Fo53; have Fo53 := Lib.hid rFo53; clear rFo53
  have rB := below_chain B.out (by omega) hb'; clear B; have B := Lib.hid rB; clear rB
  have Fo55 := Lib.hid q33; clear q33
  have em33 : Below w30.heap.size w30 w33 := below_chain em32 (by omega) hb'
  clear hb hb'
  go_wp2_with fail
  refine hK _ _ ⟨⟨_, em33⟩, rfl⟩ ?_
  clear hK K
  repeat (first | (refine Mix.wpMix_read (by rfl) ?_; go_big_quiet_step (fail); refine wpQuiet_nil ?_) | (refine Mix.wpMix_pure (by rfl) ?_; go_big_quiet_step (fail); refine wpQuiet_nil ?_))
  refine Mix.wpMix_chg (by rfl) (fun K hK => ?_)
  go_wp2_with fail
  refine (toConfig_c _ _ _ _ _ _ _ _ _ _ (by exact (P3.out.rd)) (by omega) (by omega)).mono ?_
  rintro e w34 ⟨g056, g157, rfl, q34, hb⟩
  have hb' : Below w33.heap.size w33 w34 := (by first | (with_reducible exact hb) | (with_reducible exact up1 hb) | (with_reducible exact up2 hb) | (with_reducible exact up3 hb) | (with_reducible exact up4 hb) | (with_reducible exact below_of_drew hb) | (with_reducible exact below_of_drew (up1 hb)))
  have z34 := hb'.size
  have c34_a0_0 : w34.cell? ⟨w.heap.size, 0, none⟩ = some (.int .i64 sy0) := keepc hb' c33_a0_0
  clear c33_a0_0 ac33_a0_0
  have c34_a0_1 : w34.cell? ⟨w.heap.size, 1, none⟩ = some (.int .i64 st0) := keepc hb' c33_a0_1
  clear c33_a0_1 ac33_a0_1
  have c34_a0_2 : w34.cell? ⟨w.heap.size, 2, none⟩ = some (.slice A0 n0 c0) := keepc hb' c33_a0_2
  clear c33_a0_2 ac33_a0_2
  have c34_a1_0 : w34.cell? ⟨(w.heap.size + 1), 0, none⟩ = some (.int .i64 st1) := keepc hb' c33_a1_0
  clear c33_a1_0 ac33_a1_0
  have c34_a1_1 : w34.cell? ⟨(w.heap.size + 1), 1, none⟩ = some (.slice A1 n1 c1) := keepc hb' c33_a1_1
  clear c33_a1_1 ac33_a1_1
  have c34_a2_0 : w34.cell? ⟨(w.heap.size + 1 + 1), 0, none⟩ = some (.int .i64 st2) := keepc hb' c33_a2_0
  clear c33_a2_0 ac33_a2_0
  have c34_a2_1 : w34.cell? ⟨(w.heap.size + 1 + 1), 1, none⟩ = some (.slice A2 n2 c2) := keepc hb' c33_a2_1
  clear c33_a2_1 ac33_a2_1
  have c34_a3_0 : w34.cell? ⟨(w.heap.size + 1 + 1 + 1), 0, none⟩ = some (.int .i64 st3) := keepc hb' c33_a3_0
  clear c33_a3_0 ac33_a3_0
  have c34_a3_1 : w34.cell? ⟨(w.heap.size + 1 + 1 + 1), 1, none⟩ = some (.slice A3 n3 c3) := keepc hb' c33_a3_1
  clear c33_a3_1 ac33_a3_1
  have c34_a3_2 : w34.cell? ⟨(w.heap.size + 1 + 1 + 1), 2, none⟩ = some (.slice B3 m3 d3) := keepc hb' c33_a3_2
  clear c33_a3_2 ac33_a3_2
  have c34_o27_0 : w34.cell? ⟨w10.heap.size, 0, none⟩ = some (.int .i64 sy0) := keepc hb' c33_o27_0
  clear c33_o27_0 ac33_o27_0
  have c34_o27_1 : w34.cell? ⟨w10.heap.size, 1, none⟩ = some (.int .i64 st0) := keepc hb' c33_o27_1
  clear c33_o27_1 ac33_o27_1
  have c34_o27_2 : w34.cell? ⟨w10.heap.size, 2, none⟩ = some (.slice (some ⟨g026, 0, none⟩) n0 n0) := keepc hb' c33_o27_2
  clear c33_o27_2 ac33_o27_2
  have c34_o29_0 : w34.cell? ⟨w11.heap.size, 0, none⟩ = some (.int .i64 st1) := keepc hb' c33_o29_0
  clear c33_o29_0 ac33_o29_0
  have c34_o29_1 : w34.cell? ⟨w11.heap.size, 1, none⟩ = some (.slice (some ⟨g28, 0, none⟩) n1 n1) := keepc hb' c33_o29_1
  clear c33_o29_1 ac33_o29_1
  have c34_o31_0 : w34.cell? ⟨w12.heap.size, 0, none⟩ = some (.int .i64 st2) := keepc hb' c33_o31_0
  clear c33_o31_0 ac33_o31_0
  have c34_o31_1 : w34.cell? ⟨w12.heap.size, 1, none⟩ = some (.slice (some ⟨g30, 0, none⟩) n2 n2) := keepc hb' c33_o31_1
  clear c33_o31_1 ac33_o31_1
  have c34_o34_0 : w34.cell? ⟨w13.heap.size, 0, none⟩ = some (.int .i64 st3) := keepc hb' c33_o34_0
  clear c33_o34_0 ac33_o34_0
  have c34_o34_1 : w34.cell? ⟨w13.heap.size, 1, none⟩ = some (.slice (some ⟨g032, 0, none⟩) n3 n3) := keepc hb' c33_o34_1
  clear c33_o34_1 ac33_o34_1
  have c34_o34_2 : w34.cell? ⟨w13.heap.size, 2, none⟩ = some (.slice (some ⟨g133, 0, none⟩) m3 m3) := keepc hb' c33_o34_2
  clear c33_o34_2 ac33_o34_2
  have ac34_a0_0 := fun o => keepa o c34_a0_0
  have ac34_a0_1 := fun o => keepa o c34_a0_1
  have ac34_a0_2 := fun o => keepa o c34_a0_2
  have ac34_a1_0 := fun o => keepa o c34_a1_0
  have ac34_a1_1 := fun o => keepa o c34_a1_1
  have ac34_a2_0 := fun o => keepa o c34_a2_0
  have ac34_a2_1 := fun o => keepa o c34_a2_1
  have ac34_a3_0 := fun o => keepa o c34_a3_0
  have ac34_a3_1 := fun o => keepa o c34_a3_1
  have ac34_a3_2 := fun o => keepa o c34_a3_2
  have ac34_o27_0 := fun o => keepa o c34_o27_0
  have ac34_o27_1 := fun o => keepa o c34_o27_1
  have ac34_o27_2 := fun o => keepa o c34_o27_2
  have ac34_o29_0 := fun o => keepa o c34_o29_0
  have ac34_o29_1 := fun o => keepa o c34_o29_1
  have ac34_o31_0 := fun o => keepa o c34_o31_0
  have ac34_o31_1 := fun o => keepa o c34_o31_1
  have ac34_o34_0 := fun o => keepa o c34_o34_0
  have ac34_o34_1 := fun o => keepa o c34_o34_1
  have ac34_o34_2 := fun o => keepa o c34_o34_2
  have rP0 := P0.out.below hb'; clear P0; have P0 := Lib.hid rP0; clear rP0
  have rP1 := P1.out.below hb'; clear P1; have P1 := Lib.hid rP1; clear rP1
  have rP2 := P2.out.below hb'; clear P2; have P2 := Lib.hid rP2; clear rP2
  have rP3 := P3.out.below hb'; clear P3; have P3 := Lib.hid rP3; clear rP3
  have rFo25 := Fo25.out.below hb'; clear Fo25; have Fo25 := Lib.hid rFo25; clear rFo25
  have rFo27 := Fo27.out.below hb'; clear Fo27; have Fo27 := Lib.hid rFo27; clear rFo27
  have rFo29 := Fo29.out.below hb'; clear Fo29; have Fo29 := Lib.hid rFo29; clear rFo29
  have rFo31 := Fo31.out.below hb'; clear Fo31; have Fo31 := Lib.hid rFo31; clear rFo31
  have rFo34 := Fo34.out.below hb'; clear Fo34; have Fo34 := Lib.hid rFo34; clear rFo34
  have rFo40 := Fo40.out.below hb'; clear Fo40; have Fo40 := Lib.hid rFo40; clear rFo40
  have rFo51 := Fo51.out.below hb'; clear Fo51; have Fo51 := Lib.hid rFo51; clear rFo51
  have rFo53 := Fo53.out.below hb'; clear Fo53; have Fo53 := Lib.hid rFo53; clear rFo53
  have rFo55 := Fo55.out.below hb'; clear Fo55; have Fo55 := Lib.hid rFo55; clear rFo55
  have rB := below_chain B.out (by omega) hb'; clear B; have B := Lib.hid rB; clear rB
  have Fo58 := Lib.hid q34; clear q34
  have em34 : Below w30.heap.size w30 w34 := below_chain em33 (by omega) hb'
  clear hb hb'
  go_wp2_with fail
  refine hK _ _ ⟨⟨_, em34⟩, rfl⟩ ?_
  clear hK K
  refine Mix.wpMix_chg (by rfl) (fun K hK => ?_)
  go_wp2_with fail
  refine (iAbstractOf_c _ _ _ _ _ _ _ _ _ _ _ _ _ _ _ _ _ _ _ _ _ _ _ _ _ _ (by exact (Fo51.out.rd)) (by exact (Fo53.out.rdI)) (by exact (Fo55.out.rdI)) (by exact (Fo58.out.rd)) (by omega) (by omega) (by omega) (by omega) (by omega) (Nat.le_refl _)).mono ?_
  rintro e w35 ⟨A59, n60, c61, rfl, q62, l63, hb⟩
  have hb' : Below w34.heap.size w34 w35 := (by first | (with_reducible exact hb) | (with_reducible exact up1 hb) | (with_reducible exact up2 hb) | (with_reducible exact up3 hb) | (with_reducible exact up4 hb) | (with_reducible exact below_of_drew hb) | (with_reducible exact below_of_drew (up1 hb)))
  have z35 := hb'.size
  have c35_a0_0 : w35.cell? ⟨w.heap.size, 0, none⟩ = some (.int .i64 sy0) := keepc hb' c34_a0_0
  clear c34_a0_0 ac34_a0_0
  have c35_a0_1 : w35.cell? ⟨w.heap.size, 1, none⟩ = some (.int .i64 st0) := keepc hb' c34_a0_1
  clear c34_a0_1 ac34_a0_1
  have c35_a0_2 : w35.cell? ⟨w.heap.size, 2, none⟩ = some (.slice A0 n0 c0) := keepc hb' c34_a0_2
  clear c34_a0_2 ac34_a0_2
  have c35_a1_0 : w35.cell? ⟨(w.heap.size + 1), 0, none⟩ = some (.int .i64 st1) := keepc hb' c34_a1_0
  clear c34_a1_0 ac34_a1_0
  have c35_a1_1 : w35.cell? ⟨(w.heap.size + 1), 1, none⟩ = some (.slice A1 n1 c1) := keepc hb' c34_a1_1
  clear c34_a1_1 ac34_a1_1
  have c35_a2_0 : w35.cell? ⟨(w.heap.size + 1 + 1), 0, none⟩ = some (.int .i64 st2) := keepc hb' c34_a2_0
  clear c34_a2_0 ac34_a2_0
  have c35_a2_1 : w35.cell? ⟨(w.heap.size + 1 + 1), 1, none⟩ = some (.slice A2 n2 c2) := keepc hb' c34_a2_1
  clear c34_a2_1 ac34_a2_1
  have c35_a3_0 : w35.cell? ⟨(w.heap.size + 1 + 1 + 1), 0, none⟩ = some (.int .i64 st3) := keepc hb' c34_a3_0
  clear c34_a3_0 ac34_a3_0
  have c35_a3_1 : w35.cell? ⟨(w.heap.size + 1 + 1 + 1), 1, none⟩ = some (.slice A3 n3 c3) := keepc hb' c34_a3_1
  clear c34_a3_1 ac34_a3_1
  have c35_a3_2 : w35.cell? ⟨(w.heap.size + 1 + 1 + 1), 2, none⟩ = some (.slice B3 m3 d3) := keepc hb' c34_a3_2
  clear c34_a3_2 ac34_a3_2
  have c35_o27_0 : w35.cell? ⟨w10.heap.size, 0, none⟩ = some (.int .i64 sy0) := keepc hb' c34_o27_0
  clear c34_o27_0 ac34_o27_0
  have c35_o27_1 : w35.cell? ⟨w10.heap.size, 1, none⟩ = some (.int .i64 st0) := keepc hb' c34_o27_1
  clear c34_o27_1 ac34_o27_1
  have c35_o27_2 : w35.cell? ⟨w10.heap.size, 2, none⟩ = some (.slice (some ⟨g026, 0, none⟩) n0 n0) := keepc hb' c34_o27_2
  clear c34_o27_2 ac34_o27_2
  have c35_o29_0 : w35.cell? ⟨w11.heap.size, 0, none⟩ = some (.int .i64 st1) := keepc hb' c34_o29_0
  clear c34_o29_0 ac34_o29_0
  have c35_o29_1 : w35.cell? ⟨w11.heap.size, 1, none⟩ = some (.slice (some ⟨g28, 0, none⟩) n1 n1) := keepc hb' c34_o29_1
  clear c34_o29_1 ac34_o29_1
  have c35_o31_0 : w35.cell? ⟨w12.heap.size, 0, none⟩ = some (.int .i64 st2) := keepc hb' c34_o31_0
  clear c34_o31_0 ac34_o31_0
  have c35_o31_1 : w35.cell? ⟨w12.heap.size, 1, none⟩ = some (.slice (some ⟨g30, 0, none⟩) n2 n2) := keepc hb' c34_o31_1
  clear c34_o31_1 ac34_o31_1
  have c35_o34_0 : w35.cell? ⟨w13.heap.size, 0, none⟩ = some (.int .i64 st3) := keepc hb' c34_o34_0
  clear c34_o34_0 ac34_o34_0
  have c35_o34_1 : w35.cell? ⟨w13.heap.size, 1, none⟩ = some (.slice (some ⟨g032, 0, none⟩) n3 n3) := keepc hb' c34_o34_1
  clear c34_o34_1 ac34_o34_1
  have c35_o34_2 : w35.cell? ⟨w13.heap.size, 2, none⟩ = some (.slice (some ⟨g133, 0, none⟩) m3 m3) := keepc hb' c34_o34_2
  clear c34_o34_2 ac34_o34_2
  have ac35_a0_0 := fun o => keepa o c35_a0_0
  have ac35_a0_1 := fun o => keepa o c35_a0_1
  have ac35_a0_2 := fun o => keepa o c35_a0_2
  have ac35_a1_0 := fun o => keepa o c35_a1_0
  have ac35_a1_1 := fun o => keepa o c35_a1_1
  have ac35_a2_0 := fun o => keepa o c35_a2_0
  have ac35_a2_1 := fun o => keepa o c35_a2_1
  have ac35_a3_0 := fun o => keepa o c35_a3_0
  have ac35_a3_1 := fun o => keepa o c35_a3_1
  have ac35_a3_2 := fun o => keepa o c35_a3_2
  have ac35_o27_0 := fun o => keepa o c35_o27_0
  have ac35_o27_1 := fun o => keepa o c35_o27_1
  have ac35_o27_2 := fun o => keepa o c35_o27_2
  have ac35_o29_0 := fun o => keepa o c35_o29_0
  have ac35_o29_1 := fun o => keepa o c35_o29_1
  have ac35_o31_0 := fun o => keepa o c35_o31_0
  have ac35_o31_1 := fun o => keepa o c35_o31_1
  have ac35_o34_0 := fun o => keepa o c35_o34_0
  have ac35_o34_1 := fun o => keepa o c35_o34_1
  have ac35_o34_2 := fun o => keepa o c35_o34_2
  have rP0 := P0.out.below hb'; clear P0; have P0 := Lib.hid rP0; clear rP0
  have rP1 := P1.out.below hb'; clear P1; have P1 := Lib.hid rP1; clear rP1
  have rP2 := P2.out.below hb'; clear P2; have P2 := Lib.hid rP2; clear rP2
  have rP3 := P3.out.below hb'; clear P3; have P3 := Lib.hid rP3; clear rP3
  have rFo25 := Fo25.out.below hb'; clear Fo25; have Fo25 := Lib.hid rFo25; clear rFo25
  have rFo27 := Fo27.out.below hb'; clear Fo27; have Fo27 := Lib.hid rFo27; clear rFo27
  have rFo29 := Fo29.out.below hb'; clear Fo29; have Fo29 := Lib.hid rFo29; clear rFo29
  have rFo31 := Fo31.out.below hb'; clear Fo31; have Fo31 := Lib.hid rFo31; clear rFo31
  have rFo34 := Fo34.out.below hb'; clear Fo34; have Fo34 := Lib.hid rFo34; clear rFo34
  have rFo40 := Fo40.out.below hb'; clear Fo40; have Fo40 := Lib.hid rFo40; clear rFo40
  have rFo51 := Fo51.out.below hb'; clear Fo51; have Fo51 := Lib.hid rFo51; clear rFo51
  have rFo53 := Fo53.out.below hb'; clear Fo53; have Fo53 := Lib.hid rFo53; clear rFo53
  have rFo55 := Fo55.out.below hb'; clear Fo55; have Fo55 := Lib.hid rFo55; clear rFo55
  have rFo58 := Fo58.out.below hb'; clear Fo58; have Fo58 := Lib.hid rFo58; clear rFo58
  have rB := below_chain B.out (by omega) hb'; clear B; have B := Lib.hid rB; clear rB
  have Fo64 := Lib.hid q62; clear q62
  have em35 : Below w30.heap.size w30 w35 := below_chain em34 (by omega) hb'
  clear hb hb'
  go_wp2_with fail
  refine hK _ _ ⟨⟨_, em35⟩, rfl⟩ ?_
  clear hK K
  repeat (first | (refine Mix.wpMix_read (by rfl) ?_; go_big_quiet_step (fail); refine wpQuiet_nil ?_) | (refine Mix.wpMix_pure (by rfl) ?_; go_big_quiet_step (fail); refine wpQuiet_nil ?_))
  (refine Mix.wpMix_nil ?_; try simp only [Exit.then])
  clear fx_c30_a0_0
  clear fx_c30_a0_1
  clear fx_c30_a0_2
  clear fx_c30_a1_0
  clear fx_c30_a1_1
  clear fx_c30_a2_0
  clear fx_c30_a2_1
  clear fx_c30_a3_0
  clear fx_c30_a3_1
  clear fx_c30_a3_2
  clear fx_c30_o27_0
  clear fx_c30_o27_1
  clear fx_c30_o27_2
  clear fx_c30_o29_0
  clear fx_c30_o29_1
  clear fx_c30_o31_0
  clear fx_c30_o31_1
  clear fx_c30_o34_0
  clear fx_c30_o34_1
  clear fx_c30_o34_2
  clear Fo51
  clear Fo53
  clear Fo55
  clear Fo58
  go_wp2_with fail
  refine (eqInt64S_t _ _ _ _ _ _ _ _ (by exact (Fo64.out.rdI)) (by exact (Fo25.out.rdI)) (by omega)).mono ?_
  rintro e w36 ⟨rfl, hb⟩
  have hb' : Below w35.heap.size w35 w36 := (by first | (with_reducible exact hb) | (with_reducible exact up1 hb) | (with_reducible exact up2 hb) | (with_reducible exact up3 hb) | (with_reducible exact up4 hb) | (with_reducible exact below_of_drew hb) | (with_reducible exact below_of_drew (up1 hb)))
  have z36 := hb'.size
  have c36_a0_0 : w36.cell? ⟨w.heap.size, 0, none⟩ = some (.int .i64 sy0) := keepc hb' c35_a0_0
  clear c35_a0_0 ac35_a0_0
  have c36_a0_1 : w36.cell? ⟨w.heap.size, 1, none⟩ = some (.int .i64 st0) := keepc hb' c35_a0_1
  clear c35_a0_1 ac35_a0_1
  have c36_a0_2 : w36.cell? ⟨w.heap.size, 2, none⟩ = some (.slice A0 n0 c0) := keepc hb' c35_a0_2
  clear c35_a0_2 ac35_a0_2
  have c36_a1_0 : w36.cell? ⟨(w.heap.size + 1), 0, none⟩ = some (.int .i64 st1) := keepc hb' c35_a1_0
  clear c35_a1_0 ac35_a1_0
  have c36_a1_1 : w36.cell? ⟨(w.heap.size + 1), 1, none⟩ = some (.slice A1 n1 c1) := keepc hb' c35_a1_1
  clear c35_a1_1 ac35_a1_1
  have c36_a2_0 : w36.cell? ⟨(w.heap.size + 1 + 1), 0, none⟩ = some (.int .i64 st2) := keepc hb' c35_a2_0
  clear c35_a2_0 ac35_a2_0
  have c36_a2_1 : w36.cell? ⟨(w.heap.size + 1 + 1), 1, none⟩ = some (.slice A2 n2 c2) := keepc hb' c35_a2_1
  clear c35_a2_1 ac35_a2_1
  have c36_a3_0 : w36.cell? ⟨(w.heap.size + 1 + 1 + 1), 0, none⟩ = some (.int .i64 st3) := keepc hb' c35_a3_0
  clear c35_a3_0 ac35_a3_0
  have c36_a3_1 : w36.cell? ⟨(w.heap.size + 1 + 1 + 1), 1, none⟩ = some (.slice A3 n3 c3) := keepc hb' c35_a3_1
  clear c35_a3_1 ac35_a3_1
  have c36_a3_2 : w36.cell? ⟨(w.heap.size + 1 + 1 + 1), 2, none⟩ = some (.slice B3 m3 d3) := keepc hb' c35_a3_2
  clear c35_a3_2 ac35_a3_2
  have c36_o27_0 : w36.cell? ⟨w10.heap.size, 0, none⟩ = some (.int .i64 sy0) := keepc hb' c35_o27_0
  clear c35_o27_0 ac35_o27_0
  have c36_o27_1 : w36.cell? ⟨w10.heap.size, 1, none⟩ = some (.int .i64 st0) := keepc hb' c35_o27_1
  clear c35_o27_1 ac35_o27_1
  have c36_o27_2 : w36.cell? ⟨w10.heap.size, 2, none⟩ = some (.slice (some ⟨g026, 0, none⟩) n0 n0) := keepc hb' c35_o27_2
  clear c35_o27_2 ac35_o27_2
  have c36_o29_0 : w36.cell? ⟨w11.heap.size, 0, none⟩ = some (.int .i64 st1) := keepc hb' c35_o29_0
  clear c35_o29_0 ac35_o29_0
  have c36_o29_1 : w36.cell? ⟨w11.heap.size, 1, none⟩ = some (.slice (some ⟨g28, 0, none⟩) n1 n1) := keepc hb' c35_o29_1
  clear c35_o29_1 ac35_o29_1
  have c36_o31_0 : w36.cell? ⟨w12.heap.size, 0, none⟩ = some (.int .i64 st2) := keepc hb' c35_o31_0
  clear c35_o31_0 ac35_o31_0
  have c36_o31_1 : w36.cell? ⟨w12.heap.size, 1, none⟩ = some (.slice (some ⟨g30, 0, none⟩) n2 n2) := keepc hb' c35_o31_1
  clear c35_o31_1 ac35_o31_1
  have c36_o34_0 : w36.cell? ⟨w13.heap.size, 0, none⟩ = some (.int .i64 st3) := keepc hb' c35_o34_0
  clear c35_o34_0 ac35_o34_0
  have c36_o34_1 : w36.cell? ⟨w13.heap.size, 1, none⟩ = some (.slice (some ⟨g032, 0, none⟩) n3 n3) := keepc hb' c35_o34_1
  clear c35_o34_1 ac35_o34_1
  have c36_o34_2 : w36.cell? ⟨w13.heap.size, 2, none⟩ = some (.slice (some ⟨g133, 0, none⟩) m3 m3) := keepc hb' c35_o34_2
  clear c35_o34_2 ac35_o34_2
  have ac36_a0_0 := fun o => keepa o c36_a0_0
  have ac36_a0_1 := fun o => keepa o c36_a0_1
  have ac36_a0_2 := fun o => keepa o c36_a0_2
  have ac36_a1_0 := fun o => keepa o c36_a1_0
  have ac36_a1_1 := fun o => keepa o c36_a1_1
  have ac36_a2_0 := fun o => keepa o c36_a2_0
  have ac36_a2_1 := fun o => keepa o c36_a2_1
  have ac36_a3_0 := fun o => keepa o c36_a3_0
  have ac36_a3_1 := fun o => keepa o c36_a3_1
  have ac36_a3_2 := fun o => keepa o c36_a3_2
  have ac36_o27_0 := fun o => keepa o c36_o27_0
  have ac36_o27_1 := fun o => keepa o c36_o27_1
  have ac36_o27_2 := fun o => keepa o c36_o27_2
  have ac36_o29_0 := fun o => keepa o c36_o29_0
  have ac36_o29_1 := fun o => keepa o c36_o29_1
  have ac36_o31_0 := fun o => keepa o c36_o31_0
  have ac36_o31_1 := fun o => keepa o c36_o31_1
  have ac36_o34_0 := fun o => keepa o c36_o34_0
  have ac36_o34_1 := fun o => keepa o c36_o34_1
  have ac36_o34_2 := fun o => keepa o c36_o34_2
  have rP0 := P0.out.below hb'; clear P0; have P0 := Lib.hid rP0; clear rP0
  have rP1 := P1.out.below hb'; clear P1; have P1 := Lib.hid rP1; clear rP1
  have rP2 := P2.out.below hb'; clear P2; have P2 := Lib.hid rP2; clear rP2
  have rP3 := P3.out.below hb'; clear P3; have P3 := Lib.hid rP3; clear rP3
  have rFo25 := Fo25.out.below hb'; clear Fo25; have Fo25 := Lib.hid rFo25; clear rFo25
  have rFo27 := Fo27.out.below hb'; clear Fo27; have Fo27 := Lib.hid rFo27; clear rFo27
  have rFo29 := Fo29.out.below hb'; clear Fo29; have Fo29 := Lib.hid rFo29; clear rFo29
  have rFo31 := Fo31.out.below hb'; clear Fo31; have Fo31 := Lib.hid rFo31; clear rFo31
  have rFo34 := Fo34.out.below hb'; clear Fo34; have Fo34 := Lib.hid rFo34; clear rFo34
  have rFo40 := Fo40.out.below hb'; clear Fo40; have Fo40 := Lib.hid rFo40; clear rFo40
  have rFo64 := Fo64.out.below hb'; clear Fo64; have Fo64 := Lib.hid rFo64; clear rFo64
  have rB := below_chain B.out (by omega) hb'; clear B; have B := Lib.hid rB; clear rB
  clear hb hb'
  go_wp2_with fail
  refine (heldInt64S_c _ _ _ _ _ (by exact (Fo40.out.rdI)) (by omega) (by omega) (by omega)).mono ?_
  rintro e w37 ⟨rfl, hb⟩
  have hb' : Below w36.heap.size w36 w37 := (by first | (with_reducible exact hb) | (with_reducible exact up1 hb) | (with_reducible exact up2 hb) | (with_reducible exact up3 hb) | (with_reducible exact up4 hb) | (with_reducible exact below_of_drew hb) | (with_reducible exact below_of_drew (up1 hb)))
  have z37 := hb'.size
  have c37_a0_0 : w37.cell? ⟨w.heap.size, 0, none⟩ = some (.int .i64 sy0) := keepc hb' c36_a0_0
  clear c36_a0_0 ac36_a0_0
  have c37_a0_1 : w37.cell? ⟨w.heap.size, 1, none⟩ = some (.int .i64 st0) := keepc hb' c36_a0_1
  clear c36_a0_1 ac36_a0_1
  have c37_a0_2 : w37.cell? ⟨w.heap.size, 2, none⟩ = some (.slice A0 n0 c0) := keepc hb' c36_a0_2
  clear c36_a0_2 ac36_a0_2
  have c37_a1_0 : w37.cell? ⟨(w.heap.size + 1), 0, none⟩ = some (.int .i64 st1) := keepc hb' c36_a1_0
  clear c36_a1_0 ac36_a1_0
  have c37_a1_1 : w37.cell? ⟨(w.heap.size + 1), 1, none⟩ = some (.slice A1 n1 c1) := keepc hb' c36_a1_1
  clear c36_a1_1 ac36_a1_1
  have c37_a2_0 : w37.cell? ⟨(w.heap.size + 1 + 1), 0, none⟩ = some (.int .i64 st2) := keepc hb' c36_a2_0
  clear c36_a2_0 ac36_a2_0
  have c37_a2_1 : w37.cell? ⟨(w.heap.size + 1 + 1), 1, none⟩ = some (.slice A2 n2 c2) := keepc hb' c36_a2_1
  clear c36_a2_1 ac36_a2_1
  have c37_a3_0 : w37.cell? ⟨(w.heap.size + 1 + 1 + 1), 0, none⟩ = some (.int .i64 st3) := keepc hb' c36_a3_0
  clear c36_a3_0 ac36_a3_0
  have c37_a3_1 : w37.cell? ⟨(w.heap.size + 1 + 1 + 1), 1, none⟩ = some (.slice A3 n3 c3) := keepc hb' c36_a3_1
  clear c36_a3_1 ac36_a3_1
  have c37_a3_2 : w37.cell? ⟨(w.heap.size + 1 + 1 + 1), 2, none⟩ = some (.slice B3 m3 d3) := keepc hb' c36_a3_2
  clear c36_a3_2 ac36_a3_2
  have c37_o27_0 : w37.cell? ⟨w10.heap.size, 0, none⟩ = some (.int .i64 sy0) := keepc hb' c36_o27_0
  clear c36_o27_0 ac36_o27_0
  have c37_o27_1 : w37.cell? ⟨w10.heap.size, 1, none⟩ = some (.int .i64 st0) := keepc hb' c36_o27_1
  clear c36_o27_1 ac36_o27_1
  have c37_o27_2 : w37.cell? ⟨w10.heap.size, 2, none⟩ = some (.slice (some ⟨g026, 0, none⟩) n0 n0) := keepc hb' c36_o27_2
  clear c36_o27_2 ac36_o27_2
  have c37_o29_0 : w37.cell? ⟨w11.heap.size, 0, none⟩ = some (.int .i64 st1) := keepc hb' c36_o29_0
  clear c36_o29_0 ac36_o29_0
  have c37_o29_1 : w37.cell? ⟨w11.heap.size, 1, none⟩ = some (.slice (some ⟨g28, 0, none⟩) n1 n1) := keepc hb' c36_o29_1
  clear c36_o29_1 ac36_o29_1
  have c37_o31_0 : w37.cell? ⟨w12.heap.size, 0, none⟩ = some (.int .i64 st2) := keepc hb' c36_o31_0
  clear c36_o31_0 ac36_o31_0
  have c37_o31_1 : w37.cell? ⟨w12.heap.size, 1, none⟩ = some (.slice (some ⟨g30, 0, none⟩) n2 n2) := keepc hb' c36_o31_1
  clear c36_o31_1 ac36_o31_1
  have c37_o34_0 : w37.cell? ⟨w13.heap.size, 0, none⟩ = some (.int .i64 st3) := keepc hb' c36_o34_0
  clear c36_o34_0 ac36_o34_0
  have c37_o34_1 : w37.cell? ⟨w13.heap.size, 1, none⟩ = some (.slice (some ⟨g032, 0, none⟩) n3 n3) := keepc hb' c36_o34_1
  clear c36_o34_1 ac36_o34_1
  have c37_o34_2 : w37.cell? ⟨w13.heap.size, 2, none⟩ = some (.slice (some ⟨g133, 0, none⟩) m3 m3) := keepc hb' c36_o34_2
  clear c36_o34_2 ac36_o34_2
  have ac37_a0_0 := fun o => keepa o c37_a0_0
  have ac37_a0_1 := fun o => keepa o c37_a0_1
  have ac37_a0_2 := fun o => keepa o c37_a0_2
  have ac37_a1_0 := fun o => keepa o c37_a1_0
  have ac37_a1_1 := fun o => keepa o c37_a1_1
  have ac37_a2_0 := fun o => keepa o c37_a2_0
  have ac37_a2_1 := fun o => keepa o c37_a2_1
  have ac37_a3_0 := fun o => keepa o c37_a3_0
  have ac37_a3_1 := fun o => keepa o c37_a3_1
  have ac37_a3_2 := fun o => keepa o c37_a3_2
  have ac37_o27_0 := fun o => keepa o c37_o27_0
  have ac37_o27_1 := fun o => keepa o c37_o27_1
  have ac37_o27_2 := fun o => keepa o c37_o27_2
  have ac37_o29_0 := fun o => keepa o c37_o29_0
  have ac37_o29_1 := fun o => keepa o c37_o29_1
  have ac37_o31_0 := fun o => keepa o c37_o31_0
  have ac37_o31_1 := fun o => keepa o c37_o31_1
  have ac37_o34_0 := fun o => keepa o c37_o34_0
  have ac37_o34_1 := fun o => keepa o c37_o34_1
  have ac37_o34_2 := fun o => keepa o c37_o34_2
  have rP0 := P0.out.below hb'; clear P0; have P0 := Lib.hid rP0; clear rP0
  have rP1 := P1.out.below hb'; clear P1; have P1 := Lib.hid rP1; clear rP1
  have rP2 := P2.out.below hb'; clear P2; have P2 := Lib.hid rP2; clear rP2
  have rP3 := P3.out.below hb'; clear P3; have P3 := Lib.hid rP3; clear rP3
  have rFo25 := Fo25.out.below hb'; clear Fo25; have Fo25 := Lib.hid rFo25; clear rFo25
  have rFo27 := Fo27.out.below hb'; clear Fo27; have Fo27 := Lib.hid rFo27; clear rFo27
  have rFo29 := Fo29.out.below hb'; clear Fo29; have Fo29 := Lib.hid rFo29; clear rFo29
  have rFo31 := Fo31.out.below hb'; clear Fo31; have Fo31 := Lib.hid rFo31; clear rFo31
  have rFo34 := Fo34.out.below hb'; clear Fo34; have Fo34 := Lib.hid rFo34; clear rFo34
  have rFo40 := Fo40.out.below hb'; clear Fo40; have Fo40 := Lib.hid rFo40; clear rFo40
  have rFo64 := Fo64.out.below hb'; clear Fo64; have Fo64 := Lib.hid rFo64; clear rFo64
  have rB := below_chain B.out (by omega) hb'; clear B; have B := Lib.hid rB; clear rB
  clear hb hb'
  go_wp2
  go_ret
  exact ⟨rfl, B.out⟩
end Go.Proofs.Ytdnicjeadpefnaa
