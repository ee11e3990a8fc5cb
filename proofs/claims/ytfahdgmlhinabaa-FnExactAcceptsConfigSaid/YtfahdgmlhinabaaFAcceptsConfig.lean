/-
  FnExactAcceptsConfig returns true for every input: its walk, out of the contracts.
-/
import Derived.Test.YtfahdgmlhinabaaLawMachine
import Derived.Test.YtfahdgmlhinabaaLawDfa
import Derived.Test.YtfahdgmlhinabaaLawConfig
import Derived.Test.YtfahdgmlhinabaaC28v
import Derived.Test.YtfahdgmlhinabaaOpen
namespace Go.Proofs.Ytfahdgmlhinabaa
open Go.RowKit

set_option maxHeartbeats 4000000 in
set_option maxRecDepth 100000 in
theorem walkAcceptsConfig (sy0 : Int) (st0 : Int) (A0 : Option Addr) (n0 : Nat) (c0 : Nat) (xs0 : List (Int × Int × Int)) (st1 : Int) (A1 : Option Addr) (n1 : Nat) (c1 : Nat) (xs1 : List Int) (st2 : Int) (A2 : Option Addr) (n2 : Nat) (c2 : Nat) (xs2 : List Int) (st3 : Int) (A3 : Option Addr) (n3 : Nat) (c3 : Nat) (xs3 : List Int) (B3 : Option Addr) (m3 : Nat) (d3 : Nat) (ys3 : List Int) (w : World) (h0 : RdS w [sgX enc3 3 A0 n0 xs0]) (hb0_0 : n0 ≤ 9223372036854775807) (_o0 : i64ok sy0) (_p0 : i64ok st0) (_oo0 : ∀ x ∈ xs0, i64ok x.1 ∧ i64ok x.2.1 ∧ i64ok x.2.2) (h1 : RdI w A1 n1 xs1) (hb1 : n1 ≤ 9223372036854775807) (_o1 : i64ok st1) (_oo1 : ∀ x ∈ xs1, i64ok x) (h2 : RdI w A2 n2 xs2) (hb2 : n2 ≤ 9223372036854775807) (_o2 : i64ok st2) (_oo2 : ∀ x ∈ xs2, i64ok x) (h3 : RdS w ([sgI A3 n3 xs3] ++ [sgI B3 m3 ys3])) (hb3_0 : n3 ≤ 9223372036854775807) (hb3_1 : m3 ≤ 9223372036854775807) (_o3 : i64ok st3) (_oo3 : ∀ x ∈ xs3, i64ok x) (_pp3 : ∀ x ∈ ys3, i64ok x) :
    Calls Try.prog 8 #[.agg #[.int .i64 sy0, .int .i64 st0, .slice A0 n0 c0], .agg #[.int .i64 st1, .slice A1 n1 c1], .agg #[.int .i64 st2, .slice A2 n2 c2], .agg #[.int .i64 st3, .slice A3 n3 c3, .slice B3 m3 d3]] w fun e w' => e = .returned (.bool true) ∧ Below w.heap.size w w' := by
  have P0 := Lib.hid (RdSU.mk' h0); clear h0
  have P1 := Lib.hid (RdU.mk' h1); clear h1
  have P2 := Lib.hid (RdU.mk' h2); clear h2
  have P3 := Lib.hid (RdSU.mk' h3); clear h3
  go_enter Try.func8, Try.ntmps8
  go_wp2_with fail
  refine (szMachine_c _ _ _ _ _ xs0 _ _ hb0_0 (by omega) (by omega)).mono ?_
  rintro e w1 ⟨rfl, hb⟩
  have hb' : Below w.heap.size w w1 := (by first | (with_reducible exact hb) | (with_reducible exact up1 hb) | (with_reducible exact up2 hb) | (with_reducible exact up3 hb) | (with_reducible exact up4 hb) | (with_reducible exact below_of_drew hb) | (with_reducible exact below_of_drew (up1 hb)))
  have z1 := hb'.size
  have c1_a0_0 : w1.cell? ⟨w.heap.size, 0, none⟩ = some (.int .i64 sy0) := keepc hb (by first | (simp; done) | (rw [World.cell?_alloc_past _ _ _ (by simp <;> omega)]; simp; done) | (rw [World.cell?_alloc_past _ _ _ (by simp <;> omega), World.cell?_alloc_past _ _ _ (by simp <;> omega)]; simp; done) | (rw [World.cell?_alloc_past _ _ _ (by simp <;> omega), World.cell?_alloc_past _ _ _ (by simp <;> omega), World.cell?_alloc_past _ _ _ (by simp <;> omega)]; simp; done) | (rw [World.cell?_alloc_at _ _ _ _ (by simp)]; simp; done) | (rw [World.cell?_alloc_past _ _ _ (by simp <;> omega), World.cell?_alloc_at _ _ _ _ (by simp)]; simp; done) | (rw [World.cell?_alloc_past _ _ _ (by simp <;> omega), World.cell?_alloc_past _ _ _ (by simp <;> omega), World.cell?_alloc_at _ _ _ _ (by simp)]; simp; done) | (rw [World.cell?_alloc_past _ _ _ (by simp <;> omega), World.cell?_alloc_past _ _ _ (by simp <;> omega), World.cell?_alloc_past _ _ _ (by simp <;> omega), World.cell?_alloc_at _ _ _ _ (by simp)]; simp; done))
  have hl_c1_a0_0 : w.heap.size < w1.heap.size := World.block_lt_of_cell? w1 _ c1_a0_0
  have c1_a0_1 : w1.cell? ⟨w.heap.size, 1, none⟩ = some (.int .i64 st0) := keepc hb (by first | (simp; done) | (rw [World.cell?_alloc_past _ _ _ (by simp <;> omega)]; simp; done) | (rw [World.cell?_alloc_past _ _ _ (by simp <;> omega), World.cell?_alloc_past _ _ _ (by simp <;> omega)]; simp; done) | (rw [World.cell?_alloc_past _ _ _ (by simp <;> omega), World.cell?_alloc_past _ _ _ (by simp <;> omega), World.cell?_alloc_past _ _ _ (by simp <;> omega)]; simp; done) | (rw [World.cell?_alloc_at _ _ _ _ (by simp)]; simp; done) | (rw [World.cell?_alloc_past _ _ _ (by simp <;> omega), World.cell?_alloc_at _ _ _ _ (by simp)]; simp; done) | (rw [World.cell?_alloc_past _ _ _ (by simp <;> omega), World.cell?_alloc_past _ _ _ (by simp <;> omega), World.cell?_alloc_at _ _ _ _ (by simp)]; simp; done) | (rw [World.cell?_alloc_past _ _ _ (by simp <;> omega), World.cell?_alloc_past _ _ _ (by simp <;> omega), World.cell?_alloc_past _ _ _ (by simp <;> omega), World.cell?_alloc_at _ _ _ _ (by simp)]; simp; done))
  have c1_a0_2 : w1.cell? ⟨w.heap.size, 2, none⟩ = some (.slice A0 n0 c0) := keepc hb (by first | (simp; done) | (rw [World.cell?_alloc_past _ _ _ (by simp <;> omega)]; simp; done) | (rw [World.cell?_alloc_past _ _ _ (by simp <;> omega), World.cell?_alloc_past _ _ _ (by simp <;> omega)]; simp; done) | (rw [World.cell?_alloc_past _ _ _ (by simp <;> omega), World.cell?_alloc_past _ _ _ (by simp <;> omega), World.cell?_alloc_past _ _ _ (by simp <;> omega)]; simp; done) | (rw [World.cell?_alloc_at _ _ _ _ (by simp)]; simp; done) | (rw [World.cell?_alloc_past _ _ _ (by simp <;> omega), World.cell?_alloc_at _ _ _ _ (by simp)]; simp; done) | (rw [World.cell?_alloc_past _ _ _ (by simp <;> omega), World.cell?_alloc_past _ _ _ (by simp <;> omega), World.cell?_alloc_at _ _ _ _ (by simp)]; simp; done) | (rw [World.cell?_alloc_past _ _ _ (by simp <;> omega), World.cell?_alloc_past _ _ _ (by simp <;> omega), World.cell?_alloc_past _ _ _ (by simp <;> omega), World.cell?_alloc_at _ _ _ _ (by simp)]; simp; done))
  have c1_a1_0 : w1.cell? ⟨(w.heap.size + 1), 0, none⟩ = some (.int .i64 st1) := keepc hb (by first | (simp; done) | (rw [World.cell?_alloc_past _ _ _ (by simp <;> omega)]; simp; done) | (rw [World.cell?_alloc_past _ _ _ (by simp <;> omega), World.cell?_alloc_past _ _ _ (by simp <;> omega)]; simp; done) | (rw [World.cell?_alloc_past _ _ _ (by simp <;> omega), World.cell?_alloc_past _ _ _ (by simp <;> omega), World.cell?_alloc_past _ _ _ (by simp <;> omega)]; simp; done) | (rw [World.cell?_alloc_at _ _ _ _ (by simp)]; simp; done) | (rw [World.cell?_alloc_past _ _ _ (by simp <;> omega), World.cell?_alloc_at _ _ _ _ (by simp)]; simp; done) | (rw [World.cell?_alloc_past _ _ _ (by simp <;> omega), World.cell?_alloc_past _ _ _ (by simp <;> omega), World.cell?_alloc_at _ _ _ _ (by simp)]; simp; done) | (rw [World.cell?_alloc_past _ _ _ (by simp <;> omega), World.cell?_alloc_past _ _ _ (by simp <;> omega), World.cell?_alloc_past _ _ _ (by simp <;> omega), World.cell?_alloc_at _ _ _ _ (by simp)]; simp; done))
  have hl_c1_a1_0 : (w.heap.size + 1) < w1.heap.size := World.block_lt_of_cell? w1 _ c1_a1_0
  have c1_a1_1 : w1.cell? ⟨(w.heap.size + 1), 1, none⟩ = some (.slice A1 n1 c1) := keepc hb (by first | (simp; done) | (rw [World.cell?_alloc_past _ _ _ (by simp <;> omega)]; simp; done) | (rw [World.cell?_alloc_past _ _ _ (by simp <;> omega), World.cell?_alloc_past _ _ _ (by simp <;> omega)]; simp; done) | (rw [World.cell?_alloc_past _ _ _ (by simp <;> omega), World.cell?_alloc_past _ _ _ (by simp <;> omega), World.cell?_alloc_past _ _ _ (by simp <;> omega)]; simp; done) | (rw [World.cell?_alloc_at _ _ _ _ (by simp)]; simp; done) | (rw [World.cell?_alloc_past _ _ _ (by simp <;> omega), World.cell?_alloc_at _ _ _ _ (by simp)]; simp; done) | (rw [World.cell?_alloc_past _ _ _ (by simp <;> omega), World.cell?_alloc_past _ _ _ (by simp <;> omega), World.cell?_alloc_at _ _ _ _ (by simp)]; simp; done) | (rw [World.cell?_alloc_past _ _ _ (by simp <;> omega), World.cell?_alloc_past _ _ _ (by simp <;> omega), World.cell?_alloc_past _ _ _ (by simp <;> omega), World.cell?_alloc_at _ _ _ _ (by simp)]; simp; done))
  have c1_a2_0 : w1.cell? ⟨(w.heap.size + 1 + 1), 0, none⟩ = some (.int .i64 st2) := keepc hb (by first | (simp; done) | (rw [World.cell?_alloc_past _ _ _ (by simp <;> omega)]; simp; done) | (rw [World.cell?_alloc_past _ _ _ (by simp <;> omega), World.cell?_alloc_past _ _ _ (by simp <;> omega)]; simp; done) | (rw [World.cell?_alloc_past _ _ _ (by simp <;> omega), World.cell?_alloc_past _ _ _ (by simp <;> omega), World.cell?_alloc_past _ _ _ (by simp <;> omega)]; simp; done) | (rw [World.cell?_alloc_at _ _ _ _ (by simp)]; simp; done) | (rw [World.cell?_alloc_past _ _ _ (by simp <;> omega), World.cell?_alloc_at _ _ _ _ (by simp)]; simp; done) | (rw [World.cell?_alloc_past _ _ _ (by simp <;> omega), World.cell?_alloc_past _ _ _ (by simp <;> omega), World.cell?_alloc_at _ _ _ _ (by simp)]; simp; done) | (rw [World.cell?_alloc_past _ _ _ (by simp <;> omega), World.cell?_alloc_past _ _ _ (by simp <;> omega), World.cell?_alloc_past _ _ _ (by simp <;> omega), World.cell?_alloc_at _ _ _ _ (by simp)]; simp; done))
  have hl_c1_a2_0 : (w.heap.size + 1 + 1) < w1.heap.size := World.block_lt_of_cell? w1 _ c1_a2_0
  have c1_a2_1 : w1.cell? ⟨(w.heap.size + 1 + 1), 1, none⟩ = some (.slice A2 n2 c2) := keepc hb (by first | (simp; done) | (rw [World.cell?_alloc_past _ _ _ (by simp <;> omega)]; simp; done) | (rw [World.cell?_alloc_past _ _ _ (by simp <;> omega), World.cell?_alloc_past _ _ _ (by simp <;> omega)]; simp; done) | (rw [World.cell?_alloc_past _ _ _ (by simp <;> omega), World.cell?_alloc_past _ _ _ (by simp <;> omega), World.cell?_alloc_past _ _ _ (by simp <;> omega)]; simp; done) | (rw [World.cell?_alloc_at _ _ _ _ (by simp)]; simp; done) | (rw [World.cell?_alloc_past _ _ _ (by simp <;> omega), World.cell?_alloc_at _ _ _ _ (by simp)]; simp; done) | (rw [World.cell?_alloc_past _ _ _ (by simp <;> omega), World.cell?_alloc_past _ _ _ (by simp <;> omega), World.cell?_alloc_at _ _ _ _ (by simp)]; simp; done) | (rw [World.cell?_alloc_past _ _ _ (by simp <;> omega), World.cell?_alloc_past _ _ _ (by simp <;> omega), World.cell?_alloc_past _ _ _ (by simp <;> omega), World.cell?_alloc_at _ _ _ _ (by simp)]; simp; done))
  have c1_a3_0 : w1.cell? ⟨(w.heap.size + 1 + 1 + 1), 0, none⟩ = some (.int .i64 st3) := keepc hb (by first | (simp; done) | (rw [World.cell?_alloc_past _ _ _ (by simp <;> omega)]; simp; done) | (rw [World.cell?_alloc_past _ _ _ (by simp <;> omega), World.cell?_alloc_past _ _ _ (by simp <;> omega)]; simp; done) | (rw [World.cell?_alloc_past _ _ _ (by simp <;> omega), World.cell?_alloc_past _ _ _ (by simp <;> omega), World.cell?_alloc_past _ _ _ (by simp <;> omega)]; simp; done) | (rw [World.cell?_alloc_at _ _ _ _ (by simp)]; simp; done) | (rw [World.cell?_alloc_past _ _ _ (by simp <;> omega), World.cell?_alloc_at _ _ _ _ (by simp)]; simp; done) | (rw [World.cell?_alloc_past _ _ _ (by simp <;> omega), World.cell?_alloc_past _ _ _ (by simp <;> omega), World.cell?_alloc_at _ _ _ _ (by simp)]; simp; done) | (rw [World.cell?_alloc_past _ _ _ (by simp <;> omega), World.cell?_alloc_past _ _ _ (by simp <;> omega), World.cell?_alloc_past _ _ _ (by simp <;> omega), World.cell?_alloc_at _ _ _ _ (by simp)]; simp; done))
  have hl_c1_a3_0 : (w.heap.size + 1 + 1 + 1) < w1.heap.size := World.block_lt_of_cell? w1 _ c1_a3_0
  have c1_a3_1 : w1.cell? ⟨(w.heap.size + 1 + 1 + 1), 1, none⟩ = some (.slice A3 n3 c3) := keepc hb (by first | (simp; done) | (rw [World.cell?_alloc_past _ _ _ (by simp <;> omega)]; simp; done) | (rw [World.cell?_alloc_past _ _ _ (by simp <;> omega), World.cell?_alloc_past _ _ _ (by simp <;> omega)]; simp; done) | (rw [World.cell?_alloc_past _ _ _ (by simp <;> omega), World.cell?_alloc_past _ _ _ (by simp <;> omega), World.cell?_alloc_past _ _ _ (by simp <;> omega)]; simp; done) | (rw [World.cell?_alloc_at _ _ _ _ (by simp)]; simp; done) | (rw [World.cell?_alloc_past _ _ _ (by simp <;> omega), World.cell?_alloc_at _ _ _ _ (by simp)]; simp; done) | (rw [World.cell?_alloc_past _ _ _ (by simp <;> omega), World.cell?_alloc_past _ _ _ (by simp <;> omega), World.cell?_alloc_at _ _ _ _ (by simp)]; simp; done) | (rw [World.cell?_alloc_past _ _ _ (by simp <;> omega), World.cell?_alloc_past _ _ _ (by simp <;> omega), World.cell?_alloc_past _ _ _ (by simp <;> omega), World.cell?_alloc_at _ _ _ _ (by simp)]; simp; done))
  have c1_a3_2 : w1.cell? ⟨(w.heap.size + 1 + 1 + 1), 2, none⟩ = some (.slice B3 m3 d3) := keepc hb (by first | (simp; done) | (rw [World.cell?_alloc_past _ _ _ (by simp <;> omega)]; simp; done) | (rw [World.cell?_alloc_past _ _ _ (by simp <;> omega), World.cell?_alloc_past _ _ _ (by simp <;> omega)]; simp; done) | (rw [World.cell?_alloc_past _ _ _ (by simp <;> omega), World.cell?_alloc_past _ _ _ (by simp <;> omega), World.cell?_alloc_past _ _ _ (by simp <;> omega)]; simp; done) | (rw [World.cell?_alloc_at _ _ _ _ (by simp)]; simp; done) | (rw [World.cell?_alloc_past _ _ _ (by simp <;> omega), World.cell?_alloc_at _ _ _ _ (by simp)]; simp; done) | (rw [World.cell?_alloc_past _ _ _ (by simp <;> omega), World.cell?_alloc_past _ _ _ (by simp <;> omega), World.cell?_alloc_at _ _ _ _ (by simp)]; simp; done) | (rw [World.cell?_alloc_past _ _ _ (by simp <;> omega), World.cell?_alloc_past _ _ _ (by simp <;> omega), World.cell?_alloc_past _ _ _ (by simp <;> omega), World.cell?_alloc_at _ _ _ _ (by simp)]; simp; done))
  have ac1_a0_0 := fun o => keepa o c1_a0_0
  have ac1_a0_1 := fun o => keepa o c1_a0_1
  have ac1_a0_2 := fun o => keepa o c1_a0_2
  have ac1_a1_0 := fun o => keepa o c1_a1_0
  have ac1_a1_1 := fun o => keepa o c1_a1_1
  have ac1_a2_0 := fun o => keepa o c1_a2_0
  have ac1_a2_1 := fun o => keepa o c1_a2_1
  have ac1_a3_0 := fun o => keepa o c1_a3_0
  have ac1_a3_1 := fun o => keepa o c1_a3_1
  have ac1_a3_2 := fun o => keepa o c1_a3_2
  have rP0 := P0.out.below hb'; clear P0; have P0 := Lib.hid rP0; clear rP0
  have rP1 := P1.out.below hb'; clear P1; have P1 := Lib.hid rP1; clear rP1
  have rP2 := P2.out.below hb'; clear P2; have P2 := Lib.hid rP2; clear rP2
  have rP3 := P3.out.below hb'; clear P3; have P3 := Lib.hid rP3; clear rP3
  have rB := hb'; have B := Lib.hid rB; clear rB
  clear hb hb'
  by_cases hs1 : 1048576 < n0
  · rw [szOf_neg' (by omega)]
    go_wp2
    go_ret
    exact ⟨rfl, B.out⟩
  rw [szOf_pos' (by omega)]
  have hs1' : (0 : Int) ≤ 1048576 - (n0 : Nat) := by omega
  go_wp2_with fail
  refine (szDfa_c _ _ _ _ _ _ hb1 (by omega) (by omega)).mono ?_
  rintro e w2 ⟨rfl, hb⟩
  have hb' : Below w1.heap.size w1 w2 := (by first | (with_reducible exact hb) | (with_reducible exact up1 hb) | (with_reducible exact up2 hb) | (with_reducible exact up3 hb) | (with_reducible exact up4 hb) | (with_reducible exact below_of_drew hb) | (with_reducible exact below_of_drew (up1 hb)))
  have z2 := hb'.size
  have c2_a0_0 : w2.cell? ⟨w.heap.size, 0, none⟩ = some (.int .i64 sy0) := keepc hb' c1_a0_0
  clear c1_a0_0 ac1_a0_0
  have c2_a0_1 : w2.cell? ⟨w.heap.size, 1, none⟩ = some (.int .i64 st0) := keepc hb' c1_a0_1
  clear c1_a0_1 ac1_a0_1
  have c2_a0_2 : w2.cell? ⟨w.heap.size, 2, none⟩ = some (.slice A0 n0 c0) := keepc hb' c1_a0_2
  clear c1_a0_2 ac1_a0_2
  have c2_a1_0 : w2.cell? ⟨(w.heap.size + 1), 0, none⟩ = some (.int .i64 st1) := keepc hb' c1_a1_0
  clear c1_a1_0 ac1_a1_0
  have c2_a1_1 : w2.cell? ⟨(w.heap.size + 1), 1, none⟩ = some (.slice A1 n1 c1) := keepc hb' c1_a1_1
  clear c1_a1_1 ac1_a1_1
  have c2_a2_0 : w2.cell? ⟨(w.heap.size + 1 + 1), 0, none⟩ = some (.int .i64 st2) := keepc hb' c1_a2_0
  clear c1_a2_0 ac1_a2_0
  have c2_a2_1 : w2.cell? ⟨(w.heap.size + 1 + 1), 1, none⟩ = some (.slice A2 n2 c2) := keepc hb' c1_a2_1
  clear c1_a2_1 ac1_a2_1
  have c2_a3_0 : w2.cell? ⟨(w.heap.size + 1 + 1 + 1), 0, none⟩ = some (.int .i64 st3) := keepc hb' c1_a3_0
  clear c1_a3_0 ac1_a3_0
  have c2_a3_1 : w2.cell? ⟨(w.heap.size + 1 + 1 + 1), 1, none⟩ = some (.slice A3 n3 c3) := keepc hb' c1_a3_1
  clear c1_a3_1 ac1_a3_1
  have c2_a3_2 : w2.cell? ⟨(w.heap.size + 1 + 1 + 1), 2, none⟩ = some (.slice B3 m3 d3) := keepc hb' c1_a3_2
  clear c1_a3_2 ac1_a3_2
  have ac2_a0_0 := fun o => keepa o c2_a0_0
  have ac2_a0_1 := fun o => keepa o c2_a0_1
  have ac2_a0_2 := fun o => keepa o c2_a0_2
  have ac2_a1_0 := fun o => keepa o c2_a1_0
  have ac2_a1_1 := fun o => keepa o c2_a1_1
  have ac2_a2_0 := fun o => keepa o c2_a2_0
  have ac2_a2_1 := fun o => keepa o c2_a2_1
  have ac2_a3_0 := fun o => keepa o c2_a3_0
  have ac2_a3_1 := fun o => keepa o c2_a3_1
  have ac2_a3_2 := fun o => keepa o c2_a3_2
  have rP0 := P0.out.below hb'; clear P0; have P0 := Lib.hid rP0; clear rP0
  have rP1 := P1.out.below hb'; clear P1; have P1 := Lib.hid rP1; clear rP1
  have rP2 := P2.out.below hb'; clear P2; have P2 := Lib.hid rP2; clear rP2
  have rP3 := P3.out.below hb'; clear P3; have P3 := Lib.hid rP3; clear rP3
  have rB := below_chain B.out (by omega) hb'; clear B; have B := Lib.hid rB; clear rB
  clear hb hb'
  by_cases hs2 : 1048576 - (n0 : Nat) < n1
  · rw [szOf_neg' (by omega)]
    go_wp2
    go_ret
    exact ⟨rfl, B.out⟩
  rw [szOf_pos' (by omega)]
  have hs2' : (0 : Int) ≤ 1048576 - (n0 : Nat) - (n1 : Nat) := by omega
  go_wp2_with fail
  refine (szDfa_c _ _ _ _ _ _ hb2 (by omega) (by omega)).mono ?_
  rintro e w3 ⟨rfl, hb⟩
  have hb' : Below w2.heap.size w2 w3 := (by first | (with_reducible exact hb) | (with_reducible exact up1 hb) | (with_reducible exact up2 hb) | (with_reducible exact up3 hb) | (with_reducible exact up4 hb) | (with_reducible exact below_of_drew hb) | (with_reducible exact below_of_drew (up1 hb)))
  have z3 := hb'.size
  have c3_a0_0 : w3.cell? ⟨w.heap.size, 0, none⟩ = some (.int .i64 sy0) := keepc hb' c2_a0_0
  clear c2_a0_0 ac2_a0_0
  have c3_a0_1 : w3.cell? ⟨w.heap.size, 1, none⟩ = some (.int .i64 st0) := keepc hb' c2_a0_1
  clear c2_a0_1 ac2_a0_1
  have c3_a0_2 : w3.cell? ⟨w.heap.size, 2, none⟩ = some (.slice A0 n0 c0) := keepc hb' c2_a0_2
  clear c2_a0_2 ac2_a0_2
  have c3_a1_0 : w3.cell? ⟨(w.heap.size + 1), 0, none⟩ = some (.int .i64 st1) := keepc hb' c2_a1_0
  clear c2_a1_0 ac2_a1_0
  have c3_a1_1 : w3.cell? ⟨(w.heap.size + 1), 1, none⟩ = some (.slice A1 n1 c1) := keepc hb' c2_a1_1
  clear c2_a1_1 ac2_a1_1
  have c3_a2_0 : w3.cell? ⟨(w.heap.size + 1 + 1), 0, none⟩ = some (.int .i64 st2) := keepc hb' c2_a2_0
  clear c2_a2_0 ac2_a2_0
  have c3_a2_1 : w3.cell? ⟨(w.heap.size + 1 + 1), 1, none⟩ = some (.slice A2 n2 c2) := keepc hb' c2_a2_1
  clear c2_a2_1 ac2_a2_1
  have c3_a3_0 : w3.cell? ⟨(w.heap.size + 1 + 1 + 1), 0, none⟩ = some (.int .i64 st3) := keepc hb' c2_a3_0
  clear c2_a3_0 ac2_a3_0
  have c3_a3_1 : w3.cell? ⟨(w.heap.size + 1 + 1 + 1), 1, none⟩ = some (.slice A3 n3 c3) := keepc hb' c2_a3_1
  clear c2_a3_1 ac2_a3_1
  have c3_a3_2 : w3.cell? ⟨(w.heap.size + 1 + 1 + 1), 2, none⟩ = some (.slice B3 m3 d3) := keepc hb' c2_a3_2
  clear c2_a3_2 ac2_a3_2
  have ac3_a0_0 := fun o => keepa o c3_a0_0
  have ac3_a0_1 := fun o => keepa o c3_a0_1
  have ac3_a0_2 := fun o => keepa o c3_a0_2
  have ac3_a1_0 := fun o => keepa o c3_a1_0
  have ac3_a1_1 := fun o => keepa o c3_a1_1
  have ac3_a2_0 := fun o => keepa o c3_a2_0
  have ac3_a2_1 := fun o => keepa o c3_a2_1
  have ac3_a3_0 := fun o => keepa o c3_a3_0
  have ac3_a3_1 := fun o => keepa o c3_a3_1
  have ac3_a3_2 := fun o => keepa o c3_a3_2
  have rP0 := P0.out.below hb'; clear P0; have P0 := Lib.hid rP0; clear rP0
  have rP1 := P1.out.below hb'; clear P1; have P1 := Lib.hid rP1; clear rP1
  have rP2 := P2.out.below hb'; clear P2; have P2 := Lib.hid rP2; clear rP2
  have rP3 := P3.out.below hb'; clear P3; have P3 := Lib.hid rP3; clear rP3
  have rB := below_chain B.out (by omega) hb'; clear B; have B := Lib.hid rB; clear rB
  clear hb hb'
  by_cases hs3 : 1048576 - (n0 : Nat) - (n1 : Nat) < n2
  · rw [szOf_neg' (by omega)]
    go_wp2
    go_ret
    exact ⟨rfl, B.out⟩
  rw [szOf_pos' (by omega)]
  have hs3' : (0 : Int) ≤ 1048576 - (n0 : Nat) - (n1 : Nat) - (n2 : Nat) := by omega
  go_wp2_with fail
  refine (szConfig_c _ _ _ _ xs3 _ _ _ ys3 _ _ hb3_0 hb3_1 (by omega) (by omega)).mono ?_
  rintro e w4 ⟨rfl, hb⟩
  have hb' : Below w3.heap.size w3 w4 := (by first | (with_reducible exact hb) | (with_reducible exact up1 hb) | (with_reducible exact up2 hb) | (with_reducible exact up3 hb) | (with_reducible exact up4 hb) | (with_reducible exact below_of_drew hb) | (with_reducible exact below_of_drew (up1 hb)))
  have z4 := hb'.size
  have c4_a0_0 : w4.cell? ⟨w.heap.size, 0, none⟩ = some (.int .i64 sy0) := keepc hb' c3_a0_0
  clear c3_a0_0 ac3_a0_0
  have c4_a0_1 : w4.cell? ⟨w.heap.size, 1, none⟩ = some (.int .i64 st0) := keepc hb' c3_a0_1
  clear c3_a0_1 ac3_a0_1
  have c4_a0_2 : w4.cell? ⟨w.heap.size, 2, none⟩ = some (.slice A0 n0 c0) := keepc hb' c3_a0_2
  clear c3_a0_2 ac3_a0_2
  have c4_a1_0 : w4.cell? ⟨(w.heap.size + 1), 0, none⟩ = some (.int .i64 st1) := keepc hb' c3_a1_0
  clear c3_a1_0 ac3_a1_0
  have c4_a1_1 : w4.cell? ⟨(w.heap.size + 1), 1, none⟩ = some (.slice A1 n1 c1) := keepc hb' c3_a1_1
  clear c3_a1_1 ac3_a1_1
  have c4_a2_0 : w4.cell? ⟨(w.heap.size + 1 + 1), 0, none⟩ = some (.int .i64 st2) := keepc hb' c3_a2_0
  clear c3_a2_0 ac3_a2_0
  have c4_a2_1 : w4.cell? ⟨(w.heap.size + 1 + 1), 1, none⟩ = some (.slice A2 n2 c2) := keepc hb' c3_a2_1
  clear c3_a2_1 ac3_a2_1
  have c4_a3_0 : w4.cell? ⟨(w.heap.size + 1 + 1 + 1), 0, none⟩ = some (.int .i64 st3) := keepc hb' c3_a3_0
  clear c3_a3_0 ac3_a3_0
  have c4_a3_1 : w4.cell? ⟨(w.heap.size + 1 + 1 + 1), 1, none⟩ = some (.slice A3 n3 c3) := keepc hb' c3_a3_1
  clear c3_a3_1 ac3_a3_1
  have c4_a3_2 : w4.cell? ⟨(w.heap.size + 1 + 1 + 1), 2, none⟩ = some (.slice B3 m3 d3) := keepc hb' c3_a3_2
  clear c3_a3_2 ac3_a3_2
  have ac4_a0_0 := fun o => keepa o c4_a0_0
  have ac4_a0_1 := fun o => keepa o c4_a0_1
  have ac4_a0_2 := fun o => keepa o c4_a0_2
  have ac4_a1_0 := fun o => keepa o c4_a1_0
  have ac4_a1_1 := fun o => keepa o c4_a1_1
  have ac4_a2_0 := fun o => keepa o c4_a2_0
  have ac4_a2_1 := fun o => keepa o c4_a2_1
  have ac4_a3_0 := fun o => keepa o c4_a3_0
  have ac4_a3_1 := fun o => keepa o c4_a3_1
  have ac4_a3_2 := fun o => keepa o c4_a3_2
  have rP0 := P0.out.below hb'; clear P0; have P0 := Lib.hid rP0; clear rP0
  have rP1 := P1.out.below hb'; clear P1; have P1 := Lib.hid rP1; clear rP1
  have rP2 := P2.out.below hb'; clear P2; have P2 := Lib.hid rP2; clear rP2
  have rP3 := P3.out.below hb'; clear P3; have P3 := Lib.hid rP3; clear rP3
  have rB := below_chain B.out (by omega) hb'; clear B; have B := Lib.hid rB; clear rB
  clear hb hb'
  by_cases hs4 : 1048576 - (n0 : Nat) - (n1 : Nat) - (n2 : Nat) < (n3 + m3)
  · rw [szOf_neg' (by omega)]
    go_wp2
    go_ret
    exact ⟨rfl, B.out⟩
  rw [szOf_pos' (by omega)]
  have hs4' : (0 : Int) ≤ 1048576 - (n0 : Nat) - (n1 : Nat) - (n2 : Nat) - ((n3 + m3) : Nat) := by omega
  go_wp2_with fail
  have fx_c4_a0_0 := Ext.cell c4_a0_0
  have fx_c4_a0_1 := Ext.cell c4_a0_1
  have fx_c4_a0_2 := Ext.cell c4_a0_2
  have fx_c4_a1_0 := Ext.cell c4_a1_0
  have fx_c4_a1_1 := Ext.cell c4_a1_1
  have fx_c4_a2_0 := Ext.cell c4_a2_0
  have fx_c4_a2_1 := Ext.cell c4_a2_1
  have fx_c4_a3_0 := Ext.cell c4_a3_0
  have fx_c4_a3_1 := Ext.cell c4_a3_1
  have fx_c4_a3_2 := Ext.cell c4_a3_2
  refine Mix.wp_region_mix [3, 1, 3, 1, 3, 1, 3, 1, 1, 0, 0, 0, 0, 0] (fun w' => ∃ x : Ext w4, w' = x.w) (by kernel_rfl) (by kernel_rfl) (InExt.drew _) ?_
  repeat (first | (refine Mix.wpMix_read (by rfl) ?_; go_big_quiet_step (fail); refine wpQuiet_nil ?_) | (refine Mix.wpMix_pure (by rfl) ?_; go_big_quiet_step (fail); refine wpQuiet_nil ?_))
  refine Mix.wpMix_chg (by rfl) (fun K hK => ?_)
  go_wp2_with fail
  refine (toMachine_c _ _ _ _ _ _ _ (by exact (P0.out.rd)) (by omega)).mono ?_
  rintro e w5 ⟨g011, rfl, q5, hb⟩
  have hb' : Below w4.heap.size w4 w5 := (by first | (with_reducible exact hb) | (with_reducible exact up1 hb) | (with_reducible exact up2 hb) | (with_reducible exact up3 hb) | (with_reducible exact up4 hb) | (with_reducible exact below_of_drew hb) | (with_reducible exact below_of_drew (up1 hb)))
  have z5 := hb'.size
  have c5_a0_0 : w5.cell? ⟨w.heap.size, 0, none⟩ = some (.int .i64 sy0) := keepc hb' c4_a0_0
  clear c4_a0_0 ac4_a0_0
  have c5_a0_1 : w5.cell? ⟨w.heap.size, 1, none⟩ = some (.int .i64 st0) := keepc hb' c4_a0_1
  clear c4_a0_1 ac4_a0_1
  have c5_a0_2 : w5.cell? ⟨w.heap.size, 2, none⟩ = some (.slice A0 n0 c0) := keepc hb' c4_a0_2
  clear c4_a0_2 ac4_a0_2
  have c5_a1_0 : w5.cell? ⟨(w.heap.size + 1), 0, none⟩ = some (.int .i64 st1) := keepc hb' c4_a1_0
  clear c4_a1_0 ac4_a1_0
  have c5_a1_1 : w5.cell? ⟨(w.heap.size + 1), 1, none⟩ = some (.slice A1 n1 c1) := keepc hb' c4_a1_1
  clear c4_a1_1 ac4_a1_1
  have c5_a2_0 : w5.cell? ⟨(w.heap.size + 1 + 1), 0, none⟩ = some (.int .i64 st2) := keepc hb' c4_a2_0
  clear c4_a2_0 ac4_a2_0
  have c5_a2_1 : w5.cell? ⟨(w.heap.size + 1 + 1), 1, none⟩ = some (.slice A2 n2 c2) := keepc hb' c4_a2_1
  clear c4_a2_1 ac4_a2_1
  have c5_a3_0 : w5.cell? ⟨(w.heap.size + 1 + 1 + 1), 0, none⟩ = some (.int .i64 st3) := keepc hb' c4_a3_0
  clear c4_a3_0 ac4_a3_0
  have c5_a3_1 : w5.cell? ⟨(w.heap.size + 1 + 1 + 1), 1, none⟩ = some (.slice A3 n3 c3) := keepc hb' c4_a3_1
  clear c4_a3_1 ac4_a3_1
  have c5_a3_2 : w5.cell? ⟨(w.heap.size + 1 + 1 + 1), 2, none⟩ = some (.slice B3 m3 d3) := keepc hb' c4_a3_2
  clear c4_a3_2 ac4_a3_2
  have ac5_a0_0 := fun o => keepa o c5_a0_0
  have ac5_a0_1 := fun o => keepa o c5_a0_1
  have ac5_a0_2 := fun o => keepa o c5_a0_2
  have ac5_a1_0 := fun o => keepa o c5_a1_0
  have ac5_a1_1 := fun o => keepa o c5_a1_1
  have ac5_a2_0 := fun o => keepa o c5_a2_0
  have ac5_a2_1 := fun o => keepa o c5_a2_1
  have ac5_a3_0 := fun o => keepa o c5_a3_0
  have ac5_a3_1 := fun o => keepa o c5_a3_1
  have ac5_a3_2 := fun o => keepa o c5_a3_2
  have rP0 := P0.out.below hb'; clear P0; have P0 := Lib.hid rP0; clear rP0
  have rP1 := P1.out.below hb'; clear P1; have P1 := Lib.hid rP1; clear rP1
  have rP2 := P2.out.below hb'; clear P2; have P2 := Lib.hid rP2; clear rP2
  have rP3 := P3.out.below hb'; clear P3; have P3 := Lib.hid rP3; clear rP3
  have rB := below_chain B.out (by omega) hb'; clear B; have B := Lib.hid rB; clear rB
  have Fo12 := Lib.hid q5; clear q5
  have em5 : Below w4.heap.size w4 w5 := hb'
  clear hb hb'
  go_wp2_with fail
  refine hK _ _ ⟨⟨_, em5⟩, rfl⟩ ?_
  clear hK K
  repeat (first | (refine Mix.wpMix_read (by rfl) ?_; go_big_quiet_step (fail); refine wpQuiet_nil ?_) | (refine Mix.wpMix_pure (by rfl) ?_; go_big_quiet_step (fail); refine wpQuiet_nil ?_))
  refine Mix.wpMix_chg (by rfl) (fun K hK => ?_)
  go_wp2_with fail
  refine (toDfa_c _ _ _ _ _ _ (by exact (P1.out.1)) (by omega)).mono ?_
  rintro e w6 ⟨g13, rfl, q6, hb⟩
  have hb' : Below w5.heap.size w5 w6 := (by first | (with_reducible exact hb) | (with_reducible exact up1 hb) | (with_reducible exact up2 hb) | (with_reducible exact up3 hb) | (with_reducible exact up4 hb) | (with_reducible exact below_of_drew hb) | (with_reducible exact below_of_drew (up1 hb)))
  have z6 := hb'.size
  have c6_a0_0 : w6.cell? ⟨w.heap.size, 0, none⟩ = some (.int .i64 sy0) := keepc hb' c5_a0_0
  clear c5_a0_0 ac5_a0_0
  have c6_a0_1 : w6.cell? ⟨w.heap.size, 1, none⟩ = some (.int .i64 st0) := keepc hb' c5_a0_1
  clear c5_a0_1 ac5_a0_1
  have c6_a0_2 : w6.cell? ⟨w.heap.size, 2, none⟩ = some (.slice A0 n0 c0) := keepc hb' c5_a0_2
  clear c5_a0_2 ac5_a0_2
  have c6_a1_0 : w6.cell? ⟨(w.heap.size + 1), 0, none⟩ = some (.int .i64 st1) := keepc hb' c5_a1_0
  clear c5_a1_0 ac5_a1_0
  have c6_a1_1 : w6.cell? ⟨(w.heap.size + 1), 1, none⟩ = some (.slice A1 n1 c1) := keepc hb' c5_a1_1
  clear c5_a1_1 ac5_a1_1
  have c6_a2_0 : w6.cell? ⟨(w.heap.size + 1 + 1), 0, none⟩ = some (.int .i64 st2) := keepc hb' c5_a2_0
  clear c5_a2_0 ac5_a2_0
  have c6_a2_1 : w6.cell? ⟨(w.heap.size + 1 + 1), 1, none⟩ = some (.slice A2 n2 c2) := keepc hb' c5_a2_1
  clear c5_a2_1 ac5_a2_1
  have c6_a3_0 : w6.cell? ⟨(w.heap.size + 1 + 1 + 1), 0, none⟩ = some (.int .i64 st3) := keepc hb' c5_a3_0
  clear c5_a3_0 ac5_a3_0
  have c6_a3_1 : w6.cell? ⟨(w.heap.size + 1 + 1 + 1), 1, none⟩ = some (.slice A3 n3 c3) := keepc hb' c5_a3_1
  clear c5_a3_1 ac5_a3_1
  have c6_a3_2 : w6.cell? ⟨(w.heap.size + 1 + 1 + 1), 2, none⟩ = some (.slice B3 m3 d3) := keepc hb' c5_a3_2
  clear c5_a3_2 ac5_a3_2
  have ac6_a0_0 := fun o => keepa o c6_a0_0
  have ac6_a0_1 := fun o => keepa o c6_a0_1
  have ac6_a0_2 := fun o => keepa o c6_a0_2
  have ac6_a1_0 := fun o => keepa o c6_a1_0
  have ac6_a1_1 := fun o => keepa o c6_a1_1
  have ac6_a2_0 := fun o => keepa o c6_a2_0
  have ac6_a2_1 := fun o => keepa o c6_a2_1
  have ac6_a3_0 := fun o => keepa o c6_a3_0
  have ac6_a3_1 := fun o => keepa o c6_a3_1
  have ac6_a3_2 := fun o => keepa o c6_a3_2
  have rP0 := P0.out.below hb'; clear P0; have P0 := Lib.hid rP0; clear rP0
  have rP1 := P1.out.below hb'; clear P1; have P1 := Lib.hid rP1; clear rP1
  have rP2 := P2.out.below hb'; clear P2; have P2 := Lib.hid rP2; clear rP2
  have rP3 := P3.out.below hb'; clear P3; have P3 := Lib.hid rP3; clear rP3
  have rFo12 := Fo12.out.below hb'; clear Fo12; have Fo12 := Lib.hid rFo12; clear rFo12
  have rB := below_chain B.out (by omega) hb'; clear B; have B := Lib.hid rB; clear rB
  have Fo14 := Lib.hid q6; clear q6
  have em6 : Below w4.heap.size w4 w6 := below_chain em5 (by omega) hb'
  clear hb hb'
  go_wp2_with fail
  refine hK _ _ ⟨⟨_, em6⟩, rfl⟩ ?_
  clear hK K
  repeat (first | (refine Mix.wpMix_read (by rfl) ?_; go_big_quiet_step (fail); refine wpQuiet_nil ?_) | (refine Mix.wpMix_pure (by rfl) ?_; go_big_quiet_step (fail); refine wpQuiet_nil ?_))
  refine Mix.wpMix_chg (by rfl) (fun K hK => ?_)
  go_wp2_with fail
  refine (toDfa_c _ _ _ _ _ _ (by exact (P2.out.1)) (by omega)).mono ?_
  rintro e w7 ⟨g15, rfl, q7, hb⟩
  have hb' : Below w6.heap.size w6 w7 := (by first | (with_reducible exact hb) | (with_reducible exact up1 hb) | (with_reducible exact up2 hb) | (with_reducible exact up3 hb) | (with_reducible exact up4 hb) | (with_reducible exact below_of_drew hb) | (with_reducible exact below_of_drew (up1 hb)))
  have z7 := hb'.size
  have c7_a0_0 : w7.cell? ⟨w.heap.size, 0, none⟩ = some (.int .i64 sy0) := keepc hb' c6_a0_0
  clear c6_a0_0 ac6_a0_0
  have c7_a0_1 : w7.cell? ⟨w.heap.size, 1, none⟩ = some (.int .i64 st0) := keepc hb' c6_a0_1
  clear c6_a0_1 ac6_a0_1
  have c7_a0_2 : w7.cell? ⟨w.heap.size, 2, none⟩ = some (.slice A0 n0 c0) := keepc hb' c6_a0_2
  clear c6_a0_2 ac6_a0_2
  have c7_a1_0 : w7.cell? ⟨(w.heap.size + 1), 0, none⟩ = some (.int .i64 st1) := keepc hb' c6_a1_0
  clear c6_a1_0 ac6_a1_0
  have c7_a1_1 : w7.cell? ⟨(w.heap.size + 1), 1, none⟩ = some (.slice A1 n1 c1) := keepc hb' c6_a1_1
  clear c6_a1_1 ac6_a1_1
  have c7_a2_0 : w7.cell? ⟨(w.heap.size + 1 + 1), 0, none⟩ = some (.int .i64 st2) := keepc hb' c6_a2_0
  clear c6_a2_0 ac6_a2_0
  have c7_a2_1 : w7.cell? ⟨(w.heap.size + 1 + 1), 1, none⟩ = some (.slice A2 n2 c2) := keepc hb' c6_a2_1
  clear c6_a2_1 ac6_a2_1
  have c7_a3_0 : w7.cell? ⟨(w.heap.size + 1 + 1 + 1), 0, none⟩ = some (.int .i64 st3) := keepc hb' c6_a3_0
  clear c6_a3_0 ac6_a3_0
  have c7_a3_1 : w7.cell? ⟨(w.heap.size + 1 + 1 + 1), 1, none⟩ = some (.slice A3 n3 c3) := keepc hb' c6_a3_1
  clear c6_a3_1 ac6_a3_1
  have c7_a3_2 : w7.cell? ⟨(w.heap.size + 1 + 1 + 1), 2, none⟩ = some (.slice B3 m3 d3) := keepc hb' c6_a3_2
  clear c6_a3_2 ac6_a3_2
  have ac7_a0_0 := fun o => keepa o c7_a0_0
  have ac7_a0_1 := fun o => keepa o c7_a0_1
  have ac7_a0_2 := fun o => keepa o c7_a0_2
  have ac7_a1_0 := fun o => keepa o c7_a1_0
  have ac7_a1_1 := fun o => keepa o c7_a1_1
  have ac7_a2_0 := fun o => keepa o c7_a2_0
  have ac7_a2_1 := fun o => keepa o c7_a2_1
  have ac7_a3_0 := fun o => keepa o c7_a3_0
  have ac7_a3_1 := fun o => keepa o c7_a3_1
  have ac7_a3_2 := fun o => keepa o c7_a3_2
  have rP0 := P0.out.below hb'; clear P0; have P0 := Lib.hid rP0; clear rP0
  have rP1 := P1.out.below hb'; clear P1; have P1 := Lib.hid rP1; clear rP1
  have rP2 := P2.out.below hb'; clear P2; have P2 := Lib.hid rP2; clear rP2
  have rP3 := P3.out.below hb'; clear P3; have P3 := Lib.hid rP3; clear rP3
  have rFo12 := Fo12.out.below hb'; clear Fo12; have Fo12 := Lib.hid rFo12; clear rFo12
  have rFo14 := Fo14.out.below hb'; clear Fo14; have Fo14 := Lib.hid rFo14; clear rFo14
  have rB := below_chain B.out (by omega) hb'; clear B; have B := Lib.hid rB; clear rB
  have Fo16 := Lib.hid q7; clear q7
  have em7 : Below w4.heap.size w4 w7 := below_chain em6 (by omega) hb'
  clear hb hb'
  go_wp2_with fail
  refine hK _ _ ⟨⟨_, em7⟩, rfl⟩ ?_
  clear hK K
  repeat (first | (refine Mix.wpMix_read (by rfl) ?_; go_big_quiet_step (fail); refine wpQuiet_nil ?_) | (refine Mix.wpMix_pure (by rfl) ?_; go_big_quiet_step (fail); refine wpQuiet_nil ?_))
  refine Mix.wpMix_chg (by rfl) (fun K hK => ?_)
  go_wp2_with fail
  refine (toConfig_c _ _ _ _ _ _ _ _ _ _ (by exact (P3.out.rd)) (by omega) (by omega)).mono ?_
  rintro e w8 ⟨g017, g118, rfl, q8, hb⟩
  have hb' : Below w7.heap.size w7 w8 := (by first | (with_reducible exact hb) | (with_reducible exact up1 hb) | (with_reducible exact up2 hb) | (with_reducible exact up3 hb) | (with_reducible exact up4 hb) | (with_reducible exact below_of_drew hb) | (with_reducible exact below_of_drew (up1 hb)))
  have z8 := hb'.size
  have c8_a0_0 : w8.cell? ⟨w.heap.size, 0, none⟩ = some (.int .i64 sy0) := keepc hb' c7_a0_0
  clear c7_a0_0 ac7_a0_0
  have c8_a0_1 : w8.cell? ⟨w.heap.size, 1, none⟩ = some (.int .i64 st0) := keepc hb' c7_a0_1
  clear c7_a0_1 ac7_a0_1
  have c8_a0_2 : w8.cell? ⟨w.heap.size, 2, none⟩ = some (.slice A0 n0 c0) := keepc hb' c7_a0_2
  clear c7_a0_2 ac7_a0_2
  have c8_a1_0 : w8.cell? ⟨(w.heap.size + 1), 0, none⟩ = some (.int .i64 st1) := keepc hb' c7_a1_0
  clear c7_a1_0 ac7_a1_0
  have c8_a1_1 : w8.cell? ⟨(w.heap.size + 1), 1, none⟩ = some (.slice A1 n1 c1) := keepc hb' c7_a1_1
  clear c7_a1_1 ac7_a1_1
  have c8_a2_0 : w8.cell? ⟨(w.heap.size + 1 + 1), 0, none⟩ = some (.int .i64 st2) := keepc hb' c7_a2_0
  clear c7_a2_0 ac7_a2_0
  have c8_a2_1 : w8.cell? ⟨(w.heap.size + 1 + 1), 1, none⟩ = some (.slice A2 n2 c2) := keepc hb' c7_a2_1
  clear c7_a2_1 ac7_a2_1
  have c8_a3_0 : w8.cell? ⟨(w.heap.size + 1 + 1 + 1), 0, none⟩ = some (.int .i64 st3) := keepc hb' c7_a3_0
  clear c7_a3_0 ac7_a3_0
  have c8_a3_1 : w8.cell? ⟨(w.heap.size + 1 + 1 + 1), 1, none⟩ = some (.slice A3 n3 c3) := keepc hb' c7_a3_1
  clear c7_a3_1 ac7_a3_1
  have c8_a3_2 : w8.cell? ⟨(w.heap.size + 1 + 1 + 1), 2, none⟩ = some (.slice B3 m3 d3) := keepc hb' c7_a3_2
  clear c7_a3_2 ac7_a3_2
  have ac8_a0_0 := fun o => keepa o c8_a0_0
  have ac8_a0_1 := fun o => keepa o c8_a0_1
  have ac8_a0_2 := fun o => keepa o c8_a0_2
  have ac8_a1_0 := fun o => keepa o c8_a1_0
  have ac8_a1_1 := fun o => keepa o c8_a1_1
  have ac8_a2_0 := fun o => keepa o c8_a2_0
  have ac8_a2_1 := fun o => keepa o c8_a2_1
  have ac8_a3_0 := fun o => keepa o c8_a3_0
  have ac8_a3_1 := fun o => keepa o c8_a3_1
  have ac8_a3_2 := fun o => keepa o c8_a3_2
  have rP0 := P0.out.below hb'; clear P0; have P0 := Lib.hid rP0; clear rP0
  have rP1 := P1.out.below hb'; clear P1; have P1 := Lib.hid rP1; clear rP1
  have rP2 := P2.out.below hb'; clear P2; have P2 := Lib.hid rP2; clear rP2
  have rP3 := P3.out.below hb'; clear P3; have P3 := Lib.hid rP3; clear rP3
  have rFo12 := Fo12.out.below hb'; clear Fo12; have Fo12 := Lib.hid rFo12; clear rFo12
  have rFo14 := Fo14.out.below hb'; clear Fo14; have Fo14 := Lib.hid rFo14; clear rFo14
  have rFo16 := Fo16.out.below hb'; clear Fo16; have Fo16 := Lib.hid rFo16; clear rFo16
  have rB := below_chain B.out (by omega) hb'; clear B; have B := Lib.hid rB; clear rB
  have Fo19 := Lib.hid q8; clear q8
  have em8 : Below w4.heap.size w4 w8 := below_chain em7 (by omega) hb'
  clear hb hb'
  go_wp2_with fail
  refine hK _ _ ⟨⟨_, em8⟩, rfl⟩ ?_
  clear hK K
  refine Mix.wpMix_chg (by rfl) (fun K hK => ?_)
  go_wp2_with fail
  refine (sAcceptsConfig_c _ _ _ _ _ _ _ _ _ _ _ _ _ _ _ _ _ _ _ _ _ _ _ _ _ _ (by exact (Fo12.out.rd)) (by exact (Fo14.out.rdI)) (by exact (Fo16.out.rdI)) (by exact (Fo19.out.rd)) (by omega) (by omega) (by omega) (by omega) (by omega) (Nat.le_refl _)).mono ?_
  rintro e w9 ⟨rfl, hb⟩
  have hb' : Below w8.heap.size w8 w9 := (by first | (with_reducible exact hb) | (with_reducible exact up1 hb) | (with_reducible exact up2 hb) | (with_reducible exact up3 hb) | (with_reducible exact up4 hb) | (with_reducible exact below_of_drew hb) | (with_reducible exact below_of_drew (up1 hb)))
  have z9 := hb'.size
  have c9_a0_0 : w9.cell? ⟨w.heap.size, 0, none⟩ = some (.int .i64 sy0) := keepc hb' c8_a0_0
  clear c8_a0_0 ac8_a0_0
  have c9_a0_1 : w9.cell? ⟨w.heap.size, 1, none⟩ = some (.int .i64 st0) := keepc hb' c8_a0_1
  clear c8_a0_1 ac8_a0_1
  have c9_a0_2 : w9.cell? ⟨w.heap.size, 2, none⟩ = some (.slice A0 n0 c0) := keepc hb' c8_a0_2
  clear c8_a0_2 ac8_a0_2
  have c9_a1_0 : w9.cell? ⟨(w.heap.size + 1), 0, none⟩ = some (.int .i64 st1) := keepc hb' c8_a1_0
  clear c8_a1_0 ac8_a1_0
  have c9_a1_1 : w9.cell? ⟨(w.heap.size + 1), 1, none⟩ = some (.slice A1 n1 c1) := keepc hb' c8_a1_1
  clear c8_a1_1 ac8_a1_1
  have c9_a2_0 : w9.cell? ⟨(w.heap.size + 1 + 1), 0, none⟩ = some (.int .i64 st2) := keepc hb' c8_a2_0
  clear c8_a2_0 ac8_a2_0
  have c9_a2_1 : w9.cell? ⟨(w.heap.size + 1 + 1), 1, none⟩ = some (.slice A2 n2 c2) := keepc hb' c8_a2_1
  clear c8_a2_1 ac8_a2_1
  have c9_a3_0 : w9.cell? ⟨(w.heap.size + 1 + 1 + 1), 0, none⟩ = some (.int .i64 st3) := keepc hb' c8_a3_0
  clear c8_a3_0 ac8_a3_0
  have c9_a3_1 : w9.cell? ⟨(w.heap.size + 1 + 1 + 1), 1, none⟩ = some (.slice A3 n3 c3) := keepc hb' c8_a3_1
  clear c8_a3_1 ac8_a3_1
  have c9_a3_2 : w9.cell? ⟨(w.heap.size + 1 + 1 + 1), 2, none⟩ = some (.slice B3 m3 d3) := keepc hb' c8_a3_2
  clear c8_a3_2 ac8_a3_2
  have ac9_a0_0 := fun o => keepa o c9_a0_0
  have ac9_a0_1 := fun o => keepa o c9_a0_1
  have ac9_a0_2 := fun o => keepa o c9_a0_2
  have ac9_a1_0 := fun o => keepa o c9_a1_0
  have ac9_a1_1 := fun o => keepa o c9_a1_1
  have ac9_a2_0 := fun o => keepa o c9_a2_0
  have ac9_a2_1 := fun o => keepa o c9_a2_1
  have ac9_a3_0 := fun o => keepa o c9_a3_0
  have ac9_a3_1 := fun o => keepa o c9_a3_1
  have ac9_a3_2 := fun o => keepa o c9_a3_2
  have rP0 := P0.out.below hb'; clear P0; have P0 := Lib.hid rP0; clear rP0
  have rP1 := P1.out.below hb'; clear P1; have P1 := Lib.hid rP1; clear rP1
  have rP2 := P2.out.below hb'; clear P2; have P2 := Lib.hid rP2; clear rP2
  have rP3 := P3.out.below hb'; clear P3; have P3 := Lib.hid rP3; clear rP3
  have rFo12 := Fo12.out.below hb'; clear Fo12; have Fo12 := Lib.hid rFo12; clear rFo12
  have rFo14 := Fo14.out.below hb'; clear Fo14; have Fo14 := Lib.hid rFo14; clear rFo14
  have rFo16 := Fo16.out.below hb'; clear Fo16; have Fo16 := Lib.hid rFo16; clear rFo16
  have rFo19 := Fo19.out.below hb'; clear Fo19; have Fo19 := Lib.hid rFo19; clear rFo19
  have rB := below_chain B.out (by omega) hb'; clear B; have B := Lib.hid rB; clear rB
  have em9 : Below w4.heap.size w4 w9 := below_chain em8 (by omega) hb'
  clear hb hb'
  go_wp2_with fail
  refine hK _ _ ⟨⟨_, em9⟩, rfl⟩ ?_
  clear hK K
  repeat (first | (refine Mix.wpMix_read (by rfl) ?_; go_big_quiet_step (fail); refine wpQuiet_nil ?_) | (refine Mix.wpMix_pure (by rfl) ?_; go_big_quiet_step (fail); refine wpQuiet_nil ?_))
  (refine Mix.wpMix_nil ?_; try simp only [Exit.then])
  clear fx_c4_a0_0
  clear fx_c4_a0_1
  clear fx_c4_a0_2
  clear fx_c4_a1_0
  clear fx_c4_a1_1
  clear fx_c4_a2_0
  clear fx_c4_a2_1
  clear fx_c4_a3_0
  clear fx_c4_a3_1
  clear fx_c4_a3_2
  clear Fo12
  clear Fo14
  clear Fo16
  clear Fo19
  go_wp2_with fail
  refine (toMachine_c _ _ _ _ _ _ _ (by exact (P0.out.rd)) (by omega)).mono ?_
  rintro e w10 ⟨g020, rfl, q10, hb⟩
  have hb' : Below w9.heap.size w9 w10 := (by first | (with_reducible exact hb) | (with_reducible exact up1 hb) | (with_reducible exact up2 hb) | (with_reducible exact up3 hb) | (with_reducible exact up4 hb) | (with_reducible exact below_of_drew hb) | (with_reducible exact below_of_drew (up1 hb)))
  have z10 := hb'.size
  have c10_a0_0 : w10.cell? ⟨w.heap.size, 0, none⟩ = some (.int .i64 sy0) := keepc hb' c9_a0_0
  clear c9_a0_0 ac9_a0_0
  have c10_a0_1 : w10.cell? ⟨w.heap.size, 1, none⟩ = some (.int .i64 st0) := keepc hb' c9_a0_1
  clear c9_a0_1 ac9_a0_1
  have c10_a0_2 : w10.cell? ⟨w.heap.size, 2, none⟩ = some (.slice A0 n0 c0) := keepc hb' c9_a0_2
  clear c9_a0_2 ac9_a0_2
  have c10_a1_0 : w10.cell? ⟨(w.heap.size + 1), 0, none⟩ = some (.int .i64 st1) := keepc hb' c9_a1_0
  clear c9_a1_0 ac9_a1_0
  have c10_a1_1 : w10.cell? ⟨(w.heap.size + 1), 1, none⟩ = some (.slice A1 n1 c1) := keepc hb' c9_a1_1
  clear c9_a1_1 ac9_a1_1
  have c10_a2_0 : w10.cell? ⟨(w.heap.size + 1 + 1), 0, none⟩ = some (.int .i64 st2) := keepc hb' c9_a2_0
  clear c9_a2_0 ac9_a2_0
  have c10_a2_1 : w10.cell? ⟨(w.heap.size + 1 + 1), 1, none⟩ = some (.slice A2 n2 c2) := keepc hb' c9_a2_1
  clear c9_a2_1 ac9_a2_1
  have c10_a3_0 : w10.cell? ⟨(w.heap.size + 1 + 1 + 1), 0, none⟩ = some (.int .i64 st3) := keepc hb' c9_a3_0
  clear c9_a3_0 ac9_a3_0
  have c10_a3_1 : w10.cell? ⟨(w.heap.size + 1 + 1 + 1), 1, none⟩ = some (.slice A3 n3 c3) := keepc hb' c9_a3_1
  clear c9_a3_1 ac9_a3_1
  have c10_a3_2 : w10.cell? ⟨(w.heap.size + 1 + 1 + 1), 2, none⟩ = some (.slice B3 m3 d3) := keepc hb' c9_a3_2
  clear c9_a3_2 ac9_a3_2
  have ac10_a0_0 := fun o => keepa o c10_a0_0
  have ac10_a0_1 := fun o => keepa o c10_a0_1
  have ac10_a0_2 := fun o => keepa o c10_a0_2
  have ac10_a1_0 := fun o => keepa o c10_a1_0
  have ac10_a1_1 := fun o => keepa o c10_a1_1
  have ac10_a2_0 := fun o => keepa o c10_a2_0
  have ac10_a2_1 := fun o => keepa o c10_a2_1
  have ac10_a3_0 := fun o => keepa o c10_a3_0
  have ac10_a3_1 := fun o => keepa o c10_a3_1
  have ac10_a3_2 := fun o => keepa o c10_a3_2
  have rP0 := P0.out.below hb'; clear P0; have P0 := Lib.hid rP0; clear rP0
  have rP1 := P1.out.below hb'; clear P1; have P1 := Lib.hid rP1; clear rP1
  have rP2 := P2.out.below hb'; clear P2; have P2 := Lib.hid rP2; clear rP2
  have rP3 := P3.out.below hb'; clear P3; have P3 := Lib.hid rP3; clear rP3
  have rB := below_chain B.out (by omega) hb'; clear B; have B := Lib.hid rB; clear rB
  have Fo21 := Lib.hid q10; clear q10
  clear hb hb'
  go_wp2_with fail
  refine (toDfa_c _ _ _ _ _ _ (by exact ((P1.out.1).alloc _)) (by omega)).mono ?_
  rintro e w11 ⟨g22, rfl, q11, hb⟩
  try simp only [World.size_alloc] at q11
  have hb' : Below w10.heap.size w10 w11 := (by first | (with_reducible exact hb) | (with_reducible exact up1 hb) | (with_reducible exact up2 hb) | (with_reducible exact up3 hb) | (with_reducible exact up4 hb) | (with_reducible exact below_of_drew hb) | (with_reducible exact below_of_drew (up1 hb)))
  have z11 := hb'.size
  have c11_a0_0 : w11.cell? ⟨w.heap.size, 0, none⟩ = some (.int .i64 sy0) := keepc hb' c10_a0_0
  clear c10_a0_0 ac10_a0_0
  have c11_a0_1 : w11.cell? ⟨w.heap.size, 1, none⟩ = some (.int .i64 st0) := keepc hb' c10_a0_1
  clear c10_a0_1 ac10_a0_1
  have c11_a0_2 : w11.cell? ⟨w.heap.size, 2, none⟩ = some (.slice A0 n0 c0) := keepc hb' c10_a0_2
  clear c10_a0_2 ac10_a0_2
  have c11_a1_0 : w11.cell? ⟨(w.heap.size + 1), 0, none⟩ = some (.int .i64 st1) := keepc hb' c10_a1_0
  clear c10_a1_0 ac10_a1_0
  have c11_a1_1 : w11.cell? ⟨(w.heap.size + 1), 1, none⟩ = some (.slice A1 n1 c1) := keepc hb' c10_a1_1
  clear c10_a1_1 ac10_a1_1
  have c11_a2_0 : w11.cell? ⟨(w.heap.size + 1 + 1), 0, none⟩ = some (.int .i64 st2) := keepc hb' c10_a2_0
  clear c10_a2_0 ac10_a2_0
  have c11_a2_1 : w11.cell? ⟨(w.heap.size + 1 + 1), 1, none⟩ = some (.slice A2 n2 c2) := keepc hb' c10_a2_1
  clear c10_a2_1 ac10_a2_1
  have c11_a3_0 : w11.cell? ⟨(w.heap.size + 1 + 1 + 1), 0, none⟩ = some (.int .i64 st3) := keepc hb' c10_a3_0
  clear c10_a3_0 ac10_a3_0
  have c11_a3_1 : w11.cell? ⟨(w.heap.size + 1 + 1 + 1), 1, none⟩ = some (.slice A3 n3 c3) := keepc hb' c10_a3_1
  clear c10_a3_1 ac10_a3_1
  have c11_a3_2 : w11.cell? ⟨(w.heap.size + 1 + 1 + 1), 2, none⟩ = some (.slice B3 m3 d3) := keepc hb' c10_a3_2
  clear c10_a3_2 ac10_a3_2
  have c11_o21_0 : w11.cell? ⟨w10.heap.size, 0, none⟩ = some (.int .i64 sy0) := keepc hb (by first | (simp; done) | (rw [World.cell?_alloc_past _ _ _ (by simp <;> omega)]; simp; done) | (rw [World.cell?_alloc_past _ _ _ (by simp <;> omega), World.cell?_alloc_past _ _ _ (by simp <;> omega)]; simp; done) | (rw [World.cell?_alloc_past _ _ _ (by simp <;> omega), World.cell?_alloc_past _ _ _ (by simp <;> omega), World.cell?_alloc_past _ _ _ (by simp <;> omega)]; simp; done) | (rw [World.cell?_alloc_at _ _ _ _ (by simp)]; simp; done) | (rw [World.cell?_alloc_past _ _ _ (by simp <;> omega), World.cell?_alloc_at _ _ _ _ (by simp)]; simp; done) | (rw [World.cell?_alloc_past _ _ _ (by simp <;> omega), World.cell?_alloc_past _ _ _ (by simp <;> omega), World.cell?_alloc_at _ _ _ _ (by simp)]; simp; done) | (rw [World.cell?_alloc_past _ _ _ (by simp <;> omega), World.cell?_alloc_past _ _ _ (by simp <;> omega), World.cell?_alloc_past _ _ _ (by simp <;> omega), World.cell?_alloc_at _ _ _ _ (by simp)]; simp; done))
  have hl_c11_o21_0 : w10.heap.size < w11.heap.size := World.block_lt_of_cell? w11 _ c11_o21_0
  have c11_o21_1 : w11.cell? ⟨w10.heap.size, 1, none⟩ = some (.int .i64 st0) := keepc hb (by first | (simp; done) | (rw [World.cell?_alloc_past _ _ _ (by simp <;> omega)]; simp; done) | (rw [World.cell?_alloc_past _ _ _ (by simp <;> omega), World.cell?_alloc_past _ _ _ (by simp <;> omega)]; simp; done) | (rw [World.cell?_alloc_past _ _ _ (by simp <;> omega), World.cell?_alloc_past _ _ _ (by simp <;> omega), World.cell?_alloc_past _ _ _ (by simp <;> omega)]; simp; done) | (rw [World.cell?_alloc_at _ _ _ _ (by simp)]; simp; done) | (rw [World.cell?_alloc_past _ _ _ (by simp <;> omega), World.cell?_alloc_at _ _ _ _ (by simp)]; simp; done) | (rw [World.cell?_alloc_past _ _ _ (by simp <;> omega), World.cell?_alloc_past _ _ _ (by simp <;> omega), World.cell?_alloc_at _ _ _ _ (by simp)]; simp; done) | (rw [World.cell?_alloc_past _ _ _ (by simp <;> omega), World.cell?_alloc_past _ _ _ (by simp <;> omega), World.cell?_alloc_past _ _ _ (by simp <;> omega), World.cell?_alloc_at _ _ _ _ (by simp)]; simp; done))
  have c11_o21_2 : w11.cell? ⟨w10.heap.size, 2, none⟩ = some (.slice (some ⟨g020, 0, none⟩) n0 n0) := keepc hb (by first | (simp; done) | (rw [World.cell?_alloc_past _ _ _ (by simp <;> omega)]; simp; done) | (rw [World.cell?_alloc_past _ _ _ (by simp <;> omega), World.cell?_alloc_past _ _ _ (by simp <;> omega)]; simp; done) | (rw [World.cell?_alloc_past _ _ _ (by simp <;> omega), World.cell?_alloc_past _ _ _ (by simp <;> omega), World.cell?_alloc_past _ _ _ (by simp <;> omega)]; simp; done) | (rw [World.cell?_alloc_at _ _ _ _ (by simp)]; simp; done) | (rw [World.cell?_alloc_past _ _ _ (by simp <;> omega), World.cell?_alloc_at _ _ _ _ (by simp)]; simp; done) | (rw [World.cell?_alloc_past _ _ _ (by simp <;> omega), World.cell?_alloc_past _ _ _ (by simp <;> omega), World.cell?_alloc_at _ _ _ _ (by simp)]; simp; done) | (rw [World.cell?_alloc_past _ _ _ (by simp <;> omega), World.cell?_alloc_past _ _ _ (by simp <;> omega), World.cell?_alloc_past _ _ _ (by simp <;> omega), World.cell?_alloc_at _ _ _ _ (by simp)]; simp; done))
  have ac11_a0_0 := fun o => keepa o c11_a0_0
  have ac11_a0_1 := fun o => keepa o c11_a0_1
  have ac11_a0_2 := fun o => keepa o c11_a0_2
  have ac11_a1_0 := fun o => keepa o c11_a1_0
  have ac11_a1_1 := fun o => keepa o c11_a1_1
  have ac11_a2_0 := fun o => keepa o c11_a2_0
  have ac11_a2_1 := fun o => keepa o c11_a2_1
  have ac11_a3_0 := fun o => keepa o c11_a3_0
  have ac11_a3_1 := fun o => keepa o c11_a3_1
  have ac11_a3_2 := fun o => keepa o c11_a3_2
  have ac11_o21_0 := fun o => keepa o c11_o21_0
  have ac11_o21_1 := fun o => keepa o c11_o21_1
  have ac11_o21_2 := fun o => keepa o c11_o21_2
  have rP0 := P0.out.below hb'; clear P0; have P0 := Lib.hid rP0; clear rP0
  have rP1 := P1.out.below hb'; clear P1; have P1 := Lib.hid rP1; clear rP1
  have rP2 := P2.out.below hb'; clear P2; have P2 := Lib.hid rP2; clear rP2
  have rP3 := P3.out.below hb'; clear P3; have P3 := Lib.hid rP3; clear rP3
  have rFo21 := Fo21.out.below hb'; clear Fo21; have Fo21 := Lib.hid rFo21; clear rFo21
  have rB := below_chain B.out (by omega) hb'; clear B; have B := Lib.hid rB; clear rB
  have Fo23 := Lib.hid q11; clear q11
  clear hb hb'
  go_wp2_with fail
  refine (toDfa_c _ _ _ _ _ _ (by exact ((P2.out.1).alloc _)) (by omega)).mono ?_
  rintro e w12 ⟨g24, rfl, q12, hb⟩
  try simp only [World.size_alloc] at q12
  have hb' : Below w11.heap.size w11 w12 := (by first | (with_reducible exact hb) | (with_reducible exact up1 hb) | (with_reducible exact up2 hb) | (with_reducible exact up3 hb) | (with_reducible exact up4 hb) | (with_reducible exact below_of_drew hb) | (with_reducible exact below_of_drew (up1 hb)))
  have z12 := hb'.size
  have c12_a0_0 : w12.cell? ⟨w.heap.size, 0, none⟩ = some (.int .i64 sy0) := keepc hb' c11_a0_0
  clear c11_a0_0 ac11_a0_0
  have c12_a0_1 : w12.cell? ⟨w.heap.size, 1, none⟩ = some (.int .i64 st0) := keepc hb' c11_a0_1
  clear c11_a0_1 ac11_a0_1
  have c12_a0_2 : w12.cell? ⟨w.heap.size, 2, none⟩ = some (.slice A0 n0 c0) := keepc hb' c11_a0_2
  clear c11_a0_2 ac11_a0_2
  have c12_a1_0 : w12.cell? ⟨(w.heap.size + 1), 0, none⟩ = some (.int .i64 st1) := keepc hb' c11_a1_0
  clear c11_a1_0 ac11_a1_0
  have c12_a1_1 : w12.cell? ⟨(w.heap.size + 1), 1, none⟩ = some (.slice A1 n1 c1) := keepc hb' c11_a1_1
  clear c11_a1_1 ac11_a1_1
  have c12_a2_0 : w12.cell? ⟨(w.heap.size + 1 + 1), 0, none⟩ = some (.int .i64 st2) := keepc hb' c11_a2_0
  clear c11_a2_0 ac11_a2_0
  have c12_a2_1 : w12.cell? ⟨(w.heap.size + 1 + 1), 1, none⟩ = some (.slice A2 n2 c2) := keepc hb' c11_a2_1
  clear c11_a2_1 ac11_a2_1
  have c12_a3_0 : w12.cell? ⟨(w.heap.size + 1 + 1 + 1), 0, none⟩ = some (.int .i64 st3) := keepc hb' c11_a3_0
  clear c11_a3_0 ac11_a3_0
  have c12_a3_1 : w12.cell? ⟨(w.heap.size + 1 + 1 + 1), 1, none⟩ = some (.slice A3 n3 c3) := keepc hb' c11_a3_1
  clear c11_a3_1 ac11_a3_1
  have c12_a3_2 : w12.cell? ⟨(w.heap.size + 1 + 1 + 1), 2, none⟩ = some (.slice B3 m3 d3) := keepc hb' c11_a3_2
  clear c11_a3_2 ac11_a3_2
  have c12_o21_0 : w12.cell? ⟨w10.heap.size, 0, none⟩ = some (.int .i64 sy0) := keepc hb' c11_o21_0
  clear c11_o21_0 ac11_o21_0
  have c12_o21_1 : w12.cell? ⟨w10.heap.size, 1, none⟩ = some (.int .i64 st0) := keepc hb' c11_o21_1
  clear c11_o21_1 ac11_o21_1
  have c12_o21_2 : w12.cell? ⟨w10.heap.size, 2, none⟩ = some (.slice (some ⟨g020, 0, none⟩) n0 n0) := keepc hb' c11_o21_2
  clear c11_o21_2 ac11_o21_2
  have c12_o23_0 : w12.cell? ⟨w11.heap.size, 0, none⟩ = some (.int .i64 st1) := keepc hb (by first | (simp; done) | (rw [World.cell?_alloc_past _ _ _ (by simp <;> omega)]; simp; done) | (rw [World.cell?_alloc_past _ _ _ (by simp <;> omega), World.cell?_alloc_past _ _ _ (by simp <;> omega)]; simp; done) | (rw [World.cell?_alloc_past _ _ _ (by simp <;> omega), World.cell?_alloc_past _ _ _ (by simp <;> omega), World.cell?_alloc_past _ _ _ (by simp <;> omega)]; simp; done) | (rw [World.cell?_alloc_at _ _ _ _ (by simp)]; simp; done) | (rw [World.cell?_alloc_past _ _ _ (by simp <;> omega), World.cell?_alloc_at _ _ _ _ (by simp)]; simp; done) | (rw [World.cell?_alloc_past _ _ _ (by simp <;> omega), World.cell?_alloc_past _ _ _ (by simp <;> omega), World.cell?_alloc_at _ _ _ _ (by simp)]; simp; done) | (rw [World.cell?_alloc_past _ _ _ (by simp <;> omega), World.cell?_alloc_past _ _ _ (by simp <;> omega), World.cell?_alloc_past _ _ _ (by simp <;> omega), World.cell?_alloc_at _ _ _ _ (by simp)]; simp; done))
  have hl_c12_o23_0 : w11.heap.size < w12.heap.size := World.block_lt_of_cell? w12 _ c12_o23_0
  have c12_o23_1 : w12.cell? ⟨w11.heap.size, 1, none⟩ = some (.slice (some ⟨g22, 0, none⟩) n1 n1) := keepc hb (by first | (simp; done) | (rw [World.cell?_alloc_past _ _ _ (by simp <;> omega)]; simp; done) | (rw [World.cell?_alloc_past _ _ _ (by simp <;> omega), World.cell?_alloc_past _ _ _ (by simp <;> omega)]; simp; done) | (rw [World.cell?_alloc_past _ _ _ (by simp <;> omega), World.cell?_alloc_past _ _ _ (by simp <;> omega), World.cell?_alloc_past _ _ _ (by simp <;> omega)]; simp; done) | (rw [World.cell?_alloc_at _ _ _ _ (by simp)]; simp; done) | (rw [World.cell?_alloc_past _ _ _ (by simp <;> omega), World.cell?_alloc_at _ _ _ _ (by simp)]; simp; done) | (rw [World.cell?_alloc_past _ _ _ (by simp <;> omega), World.cell?_alloc_past _ _ _ (by simp <;> omega), World.cell?_alloc_at _ _ _ _ (by simp)]; simp; done) | (rw [World.cell?_alloc_past _ _ _ (by simp <;> omega), World.cell?_alloc_past _ _ _ (by simp <;> omega), World.cell?_alloc_past _ _ _ (by simp <;> omega), World.cell?_alloc_at _ _ _ _ (by simp)]; simp; done))
  have ac12_a0_0 := fun o => keepa o c12_a0_0
  have ac12_a0_1 := fun o => keepa o c12_a0_1
  have ac12_a0_2 := fun o => keepa o c12_a0_2
  have ac12_a1_0 := fun o => keepa o c12_a1_0
  have ac12_a1_1 := fun o => keepa o c12_a1_1
  have ac12_a2_0 := fun o => keepa o c12_a2_0
  have ac12_a2_1 := fun o => keepa o c12_a2_1
  have ac12_a3_0 := fun o => keepa o c12_a3_0
  have ac12_a3_1 := fun o => keepa o c12_a3_1
  have ac12_a3_2 := fun o => keepa o c12_a3_2
  have ac12_o21_0 := fun o => keepa o c12_o21_0
  have ac12_o21_1 := fun o => keepa o c12_o21_1
  have ac12_o21_2 := fun o => keepa o c12_o21_2
  have ac12_o23_0 := fun o => keepa o c12_o23_0
  have ac12_o23_1 := fun o => keepa o c12_o23_1
  have rP0 := P0.out.below hb'; clear P0; have P0 := Lib.hid rP0; clear rP0
  have rP1 := P1.out.below hb'; clear P1; have P1 := Lib.hid rP1; clear rP1
  have rP2 := P2.out.below hb'; clear P2; have P2 := Lib.hid rP2; clear rP2
  have rP3 := P3.out.below hb'; clear P3; have P3 := Lib.hid rP3; clear rP3
  have rFo21 := Fo21.out.below hb'; clear Fo21; have Fo21 := Lib.hid rFo21; clear rFo21
  have rFo23 := Fo23.out.below hb'; clear Fo23; have Fo23 := Lib.hid rFo23; clear rFo23
  have rB := below_chain B.out (by omega) hb'; clear B; have B := Lib.hid rB; clear rB
  have Fo25 := Lib.hid q12; clear q12
  clear hb hb'
  go_wp2_with fail
  refine (toConfig_c _ _ _ _ _ _ _ _ _ _ (by exact ((P3.out.rd).alloc _)) (by omega) (by omega)).mono ?_
  rintro e w13 ⟨g026, g127, rfl, q13, hb⟩
  try simp only [World.size_alloc] at q13
  have hb' : Below w12.heap.size w12 w13 := (by first | (with_reducible exact hb) | (with_reducible exact up1 hb) | (with_reducible exact up2 hb) | (with_reducible exact up3 hb) | (with_reducible exact up4 hb) | (with_reducible exact below_of_drew hb) | (with_reducible exact below_of_drew (up1 hb)))
  have z13 := hb'.size
  have c13_a0_0 : w13.cell? ⟨w.heap.size, 0, none⟩ = some (.int .i64 sy0) := keepc hb' c12_a0_0
  clear c12_a0_0 ac12_a0_0
  have c13_a0_1 : w13.cell? ⟨w.heap.size, 1, none⟩ = some (.int .i64 st0) := keepc hb' c12_a0_1
  clear c12_a0_1 ac12_a0_1
  have c13_a0_2 : w13.cell? ⟨w.heap.size, 2, none⟩ = some (.slice A0 n0 c0) := keepc hb' c12_a0_2
  clear c12_a0_2 ac12_a0_2
  have c13_a1_0 : w13.cell? ⟨(w.heap.size + 1), 0, none⟩ = some (.int .i64 st1) := keepc hb' c12_a1_0
  clear c12_a1_0 ac12_a1_0
  have c13_a1_1 : w13.cell? ⟨(w.heap.size + 1), 1, none⟩ = some (.slice A1 n1 c1) := keepc hb' c12_a1_1
  clear c12_a1_1 ac12_a1_1
  have c13_a2_0 : w13.cell? ⟨(w.heap.size + 1 + 1), 0, none⟩ = some (.int .i64 st2) := keepc hb' c12_a2_0
  clear c12_a2_0 ac12_a2_0
  have c13_a2_1 : w13.cell? ⟨(w.heap.size + 1 + 1), 1, none⟩ = some (.slice A2 n2 c2) := keepc hb' c12_a2_1
  clear c12_a2_1 ac12_a2_1
  have c13_a3_0 : w13.cell? ⟨(w.heap.size + 1 + 1 + 1), 0, none⟩ = some (.int .i64 st3) := keepc hb' c12_a3_0
  clear c12_a3_0 ac12_a3_0
  have c13_a3_1 : w13.cell? ⟨(w.heap.size + 1 + 1 + 1), 1, none⟩ = some (.slice A3 n3 c3) := keepc hb' c12_a3_1
  clear c12_a3_1 ac12_a3_1
  have c13_a3_2 : w13.cell? ⟨(w.heap.size + 1 + 1 + 1), 2, none⟩ = some (.slice B3 m3 d3) := keepc hb' c12_a3_2
  clear c12_a3_2 ac12_a3_2
  have c13_o21_0 : w13.cell? ⟨w10.heap.size, 0, none⟩ = some (.int .i64 sy0) := keepc hb' c12_o21_0
  clear c12_o21_0 ac12_o21_0
  have c13_o21_1 : w13.cell? ⟨w10.heap.size, 1, none⟩ = some (.int .i64 st0) := keepc hb' c12_o21_1
  clear c12_o21_1 ac12_o21_1
  have c13_o21_2 : w13.cell? ⟨w10.heap.size, 2, none⟩ = some (.slice (some ⟨g020, 0, none⟩) n0 n0) := keepc hb' c12_o21_2
  clear c12_o21_2 ac12_o21_2
  have c13_o23_0 : w13.cell? ⟨w11.heap.size, 0, none⟩ = some (.int .i64 st1) := keepc hb' c12_o23_0
  clear c12_o23_0 ac12_o23_0
  have c13_o23_1 : w13.cell? ⟨w11.heap.size, 1, none⟩ = some (.slice (some ⟨g22, 0, none⟩) n1 n1) := keepc hb' c12_o23_1
  clear c12_o23_1 ac12_o23_1
  have c13_o25_0 : w13.cell? ⟨w12.heap.size, 0, none⟩ = some (.int .i64 st2) := keepc hb (by first | (simp; done) | (rw [World.cell?_alloc_past _ _ _ (by simp <;> omega)]; simp; done) | (rw [World.cell?_alloc_past _ _ _ (by simp <;> omega), World.cell?_alloc_past _ _ _ (by simp <;> omega)]; simp; done) | (rw [World.cell?_alloc_past _ _ _ (by simp <;> omega), World.cell?_alloc_past _ _ _ (by simp <;> omega), World.cell?_alloc_past _ _ _ (by simp <;> omega)]; simp; done) | (rw [World.cell?_alloc_at _ _ _ _ (by simp)]; simp; done) | (rw [World.cell?_alloc_past _ _ _ (by simp <;> omega), World.cell?_alloc_at _ _ _ _ (by simp)]; simp; done) | (rw [World.cell?_alloc_past _ _ _ (by simp <;> omega), World.cell?_alloc_past _ _ _ (by simp <;> omega), World.cell?_alloc_at _ _ _ _ (by simp)]; simp; done) | (rw [World.cell?_alloc_past _ _ _ (by simp <;> omega), World.cell?_alloc_past _ _ _ (by simp <;> omega), World.cell?_alloc_past _ _ _ (by simp <;> omega), World.cell?_alloc_at _ _ _ _ (by simp)]; simp; done))
  have hl_c13_o25_0 : w12.heap.size < w13.heap.size := World.block_lt_of_cell? w13 _ c13_o25_0
  have c13_o25_1 : w13.cell? ⟨w12.heap.size, 1, none⟩ = some (.slice (some ⟨g24, 0, none⟩) n2 n2) := keepc hb (by first | (simp; done) | (rw [World.cell?_alloc_past _ _ _ (by simp <;> omega)]; simp; done) | (rw [World.cell?_alloc_past _ _ _ (by simp <;> omega), World.cell?_alloc_past _ _ _ (by simp <;> omega)]; simp; done) | (rw [World.cell?_alloc_past _ _ _ (by simp <;> omega), World.cell?_alloc_past _ _ _ (by simp <;> omega), World.cell?_alloc_past _ _ _ (by simp <;> omega)]; simp; done) | (rw [World.cell?_alloc_at _ _ _ _ (by simp)]; simp; done) | (rw [World.cell?_alloc_past _ _ _ (by simp <;> omega), World.cell?_alloc_at _ _ _ _ (by simp)]; simp; done) | (rw [World.cell?_alloc_past _ _ _ (by simp <;> omega), World.cell?_alloc_past _ _ _ (by simp <;> omega), World.cell?_alloc_at _ _ _ _ (by simp)]; simp; done) | (rw [World.cell?_alloc_past _ _ _ (by simp <;> omega), World.cell?_alloc_past _ _ _ (by simp <;> omega), World.cell?_alloc_past _ _ _ (by simp <;> omega), World.cell?_alloc_at _ _ _ _ (by simp)]; simp; done))
  have ac13_a0_0 := fun o => keepa o c13_a0_0
  have ac13_a0_1 := fun o => keepa o c13_a0_1
  have ac13_a0_2 := fun o => keepa o c13_a0_2
  have ac13_a1_0 := fun o => keepa o c13_a1_0
  have ac13_a1_1 := fun o => keepa o c13_a1_1
  have ac13_a2_0 := fun o => keepa o c13_a2_0
  have ac13_a2_1 := fun o => keepa o c13_a2_1
  have ac13_a3_0 := fun o => keepa o c13_a3_0
  have ac13_a3_1 := fun o => keepa o c13_a3_1
  have ac13_a3_2 := fun o => keepa o c13_a3_2
  have ac13_o21_0 := fun o => keepa o c13_o21_0
  have ac13_o21_1 := fun o => keepa o c13_o21_1
  have ac13_o21_2 := fun o => keepa o c13_o21_2
  have ac13_o23_0 := fun o => keepa o c13_o23_0
  have ac13_o23_1 := fun o => keepa o c13_o23_1
  have ac13_o25_0 := fun o => keepa o c13_o25_0
  have ac13_o25_1 := fun o => keepa o c13_o25_1
  have rP0 := P0.out.below hb'; clear P0; have P0 := Lib.hid rP0; clear rP0
  have rP1 := P1.out.below hb'; clear P1; have P1 := Lib.hid rP1; clear rP1
  have rP2 := P2.out.below hb'; clear P2; have P2 := Lib.hid rP2; clear rP2
  have rP3 := P3.out.below hb'; clear P3; have P3 := Lib.hid rP3; clear rP3
  have rFo21 := Fo21.out.below hb'; clear Fo21; have Fo21 := Lib.hid rFo21; clear rFo21
  have rFo23 := Fo23.out.below hb'; clear Fo23; have Fo23 := Lib.hid rFo23; clear rFo23
  have rFo25 := Fo25.out.below hb'; clear Fo25; have Fo25 := Lib.hid rFo25; clear rFo25
  have rB := below_chain B.out (by omega) hb'; clear B; have B := Lib.hid rB; clear rB
  have Fo28 := Lib.hid q13; clear q13
  clear hb hb'
  go_wp2_with fail
  refine (iAcceptsConfig_c _ _ _ _ _ _ _ _ _ _ _ _ _ _ _ _ _ _ _ _ _ _ _ _ _ _ (by exact ((Fo21.out.rd).alloc _)) (by exact ((Fo23.out.rdI).alloc _)) (by exact ((Fo25.out.rdI).alloc _)) (by exact ((Fo28.out.rd).alloc _)) (by omega) (by omega) (by omega) (by omega) (by omega) (Nat.le_refl _)).mono ?_
  rintro e w14 ⟨rfl, hb⟩
  have hb' : Below w13.heap.size w13 w14 := (by first | (with_reducible exact hb) | (with_reducible exact up1 hb) | (with_reducible exact up2 hb) | (with_reducible exact up3 hb) | (with_reducible exact up4 hb) | (with_reducible exact below_of_drew hb) | (with_reducible exact below_of_drew (up1 hb)))
  have z14 := hb'.size
  have c14_a0_0 : w14.cell? ⟨w.heap.size, 0, none⟩ = some (.int .i64 sy0) := keepc hb' c13_a0_0
  clear c13_a0_0 ac13_a0_0
  have c14_a0_1 : w14.cell? ⟨w.heap.size, 1, none⟩ = some (.int .i64 st0) := keepc hb' c13_a0_1
  clear c13_a0_1 ac13_a0_1
  have c14_a0_2 : w14.cell? ⟨w.heap.size, 2, none⟩ = some (.slice A0 n0 c0) := keepc hb' c13_a0_2
  clear c13_a0_2 ac13_a0_2
  have c14_a1_0 : w14.cell? ⟨(w.heap.size + 1), 0, none⟩ = some (.int .i64 st1) := keepc hb' c13_a1_0
  clear c13_a1_0 ac13_a1_0
  have c14_a1_1 : w14.cell? ⟨(w.heap.size + 1), 1, none⟩ = some (.slice A1 n1 c1) := keepc hb' c13_a1_1
  clear c13_a1_1 ac13_a1_1
  have c14_a2_0 : w14.cell? ⟨(w.heap.size + 1 + 1), 0, none⟩ = some (.int .i64 st2) := keepc hb' c13_a2_0
  clear c13_a2_0 ac13_a2_0
  have c14_a2_1 : w14.cell? ⟨(w.heap.size + 1 + 1), 1, none⟩ = some (.slice A2 n2 c2) := keepc hb' c13_a2_1
  clear c13_a2_1 ac13_a2_1
  have c14_a3_0 : w14.cell? ⟨(w.heap.size + 1 + 1 + 1), 0, none⟩ = some (.int .i64 st3) := keepc hb' c13_a3_0
  clear c13_a3_0 ac13_a3_0
  have c14_a3_1 : w14.cell? ⟨(w.heap.size + 1 + 1 + 1), 1, none⟩ = some (.slice A3 n3 c3) := keepc hb' c13_a3_1
  clear c13_a3_1 ac13_a3_1
  have c14_a3_2 : w14.cell? ⟨(w.heap.size + 1 + 1 + 1), 2, none⟩ = some (.slice B3 m3 d3) := keepc hb' c13_a3_2
  clear c13_a3_2 ac13_a3_2
  have c14_o21_0 : w14.cell? ⟨w10.heap.size, 0, none⟩ = some (.int .i64 sy0) := keepc hb' c13_o21_0
  clear c13_o21_0 ac13_o21_0
  have c14_o21_1 : w14.cell? ⟨w10.heap.size, 1, none⟩ = some (.int .i64 st0) := keepc hb' c13_o21_1
  clear c13_o21_1 ac13_o21_1
  have c14_o21_2 : w14.cell? ⟨w10.heap.size, 2, none⟩ = some (.slice (some ⟨g020, 0, none⟩) n0 n0) := keepc hb' c13_o21_2
  clear c13_o21_2 ac13_o21_2
  have c14_o23_0 : w14.cell? ⟨w11.heap.size, 0, none⟩ = some (.int .i64 st1) := keepc hb' c13_o23_0
  clear c13_o23_0 ac13_o23_0
  have c14_o23_1 : w14.cell? ⟨w11.heap.size, 1, none⟩ = some (.slice (some ⟨g22, 0, none⟩) n1 n1) := keepc hb' c13_o23_1
  clear c13_o23_1 ac13_o23_1
  have c14_o25_0 : w14.cell? ⟨w12.heap.size, 0, none⟩ = some (.int .i64 st2) := keepc hb' c13_o25_0
  clear c13_o25_0 ac13_o25_0
  have c14_o25_1 : w14.cell? ⟨w12.heap.size, 1, none⟩ = some (.slice (some ⟨g24, 0, none⟩) n2 n2) := keepc hb' c13_o25_1
  clear c13_o25_1 ac13_o25_1
  have c14_o28_0 : w14.cell? ⟨w13.heap.size, 0, none⟩ = some (.int .i64 st3) := keepc hb (by first | (simp; done) | (rw [World.cell?_alloc_past _ _ _ (by simp <;> omega)]; simp; done) | (rw [World.cell?_alloc_past _ _ _ (by simp <;> omega), World.cell?_alloc_past _ _ _ (by simp <;> omega)]; simp; done) | (rw [World.cell?_alloc_past _ _ _ (by simp <;> omega), World.cell?_alloc_past _ _ _ (by simp <;> omega), World.cell?_alloc_past _ _ _ (by simp <;> omega)]; simp; done) | (rw [World.cell?_alloc_at _ _ _ _ (by simp)]; simp; done) | (rw [World.cell?_alloc_past _ _ _ (by simp <;> omega), World.cell?_alloc_at _ _ _ _ (by simp)]; simp; done) | (rw [World.cell?_alloc_past _ _ _ (by simp <;> omega), World.cell?_alloc_past _ _ _ (by simp <;> omega), World.cell?_alloc_at _ _ _ _ (by simp)]; simp; done) | (rw [World.cell?_alloc_past _ _ _ (by simp <;> omega), World.cell?_alloc_past _ _ _ (by simp <;> omega), World.cell?_alloc_past _ _ _ (by simp <;> omega), World.cell?_alloc_at _ _ _ _ (by simp)]; simp; done))
  have hl_c14_o28_0 : w13.heap.size < w14.heap.size := World.block_lt_of_cell? w14 _ c14_o28_0
  have c14_o28_1 : w14.cell? ⟨w13.heap.size, 1, none⟩ = some (.slice (some ⟨g026, 0, none⟩) n3 n3) := keepc hb (by first | (simp; done) | (rw [World.cell?_alloc_past _ _ _ (by simp <;> omega)]; simp; done) | (rw [World.cell?_alloc_past _ _ _ (by simp <;> omega), World.cell?_alloc_past _ _ _ (by simp <;> omega)]; simp; done) | (rw [World.cell?_alloc_past _ _ _ (by simp <;> omega), World.cell?_alloc_past _ _ _ (by simp <;> omega), World.cell?_alloc_past _ _ _ (by simp <;> omega)]; simp; done) | (rw [World.cell?_alloc_at _ _ _ _ (by simp)]; simp; done) | (rw [World.cell?_alloc_past _ _ _ (by simp <;> omega), World.cell?_alloc_at _ _ _ _ (by simp)]; simp; done) | (rw [World.cell?_alloc_past _ _ _ (by simp <;> omega), World.cell?_alloc_past _ _ _ (by simp <;> omega), World.cell?_alloc_at _ _ _ _ (by simp)]; simp; done) | (rw [World.cell?_alloc_past _ _ _ (by simp <;> omega), World.cell?_alloc_past _ _ _ (by simp <;> omega), World.cell?_alloc_past _ _ _ (by simp <;> omega), World.cell?_alloc_at _ _ _ _ (by simp)]; simp; done))
  have c14_o28_2 : w14.cell? ⟨w13.heap.size, 2, none⟩ = some (.slice (some ⟨g127, 0, none⟩) m3 m3) := keepc hb (by first | (simp; done) | (rw [World.cell?_alloc_past _ _ _ (by simp <;> omega)]; simp; done) | (rw [World.cell?_alloc_past _ _ _ (by simp <;> omega), World.cell?_alloc_past _ _ _ (by simp <;> omega)]; simp; done) | (rw [World.cell?_alloc_past _ _ _ (by simp <;> omega), World.cell?_alloc_past _ _ _ (by simp <;> omega), World.cell?_alloc_past _ _ _ (by simp <;> omega)]; simp; done) | (rw [World.cell?_alloc_at _ _ _ _ (by simp)]; simp; done) | (rw [World.cell?_alloc_past _ _ _ (by simp <;> omega), World.cell?_alloc_at _ _ _ _ (by simp)]; simp; done) | (rw [World.cell?_alloc_past _ _ _ (by simp <;> omega), World.cell?_alloc_past _ _ _ (by simp <;> omega), World.cell?_alloc_at _ _ _ _ (by simp)]; simp; done) | (rw [World.cell?_alloc_past _ _ _ (by simp <;> omega), World.cell?_alloc_past _ _ _ (by simp <;> omega), World.cell?_alloc_past _ _ _ (by simp <;> omega), World.cell?_alloc_at _ _ _ _ (by simp)]; simp; done))
  have ac14_a0_0 := fun o => keepa o c14_a0_0
  have ac14_a0_1 := fun o => keepa o c14_a0_1
  have ac14_a0_2 := fun o => keepa o c14_a0_2
  have ac14_a1_0 := fun o => keepa o c14_a1_0
  have ac14_a1_1 := fun o => keepa o c14_a1_1
  have ac14_a2_0 := fun o => keepa o c14_a2_0
  have ac14_a2_1 := fun o => keepa o c14_a2_1
  have ac14_a3_0 := fun o => keepa o c14_a3_0
  have ac14_a3_1 := fun o => keepa o c14_a3_1
  have ac14_a3_2 := fun o => keepa o c14_a3_2
  have ac14_o21_0 := fun o => keepa o c14_o21_0
  have ac14_o21_1 := fun o => keepa o c14_o21_1
  have ac14_o21_2 := fun o => keepa o c14_o21_2
  have ac14_o23_0 := fun o => keepa o c14_o23_0
  have ac14_o23_1 := fun o => keepa o c14_o23_1
  have ac14_o25_0 := fun o => keepa o c14_o25_0
  have ac14_o25_1 := fun o => keepa o c14_o25_1
  have ac14_o28_0 := fun o => keepa o c14_o28_0
  have ac14_o28_1 := fun o => keepa o c14_o28_1
  have ac14_o28_2 := fun o => keepa o c14_o28_2
  have rP0 := P0.out.below hb'; clear P0; have P0 := Lib.hid rP0; clear rP0
  have rP1 := P1.out.below hb'; clear P1; have P1 := Lib.hid rP1; clear rP1
  have rP2 := P2.out.below hb'; clear P2; have P2 := Lib.hid rP2; clear rP2
  have rP3 := P3.out.below hb'; clear P3; have P3 := Lib.hid rP3; clear rP3
  have rFo21 := Fo21.out.below hb'; clear Fo21; have Fo21 := Lib.hid rFo21; clear rFo21
  have rFo23 := Fo23.out.below hb'; clear Fo23; have Fo23 := Lib.hid rFo23; clear rFo23
  have rFo25 := Fo25.out.below hb'; clear Fo25; have Fo25 := Lib.hid rFo25; clear rFo25
  have rFo28 := Fo28.out.below hb'; clear Fo28; have Fo28 := Lib.hid rFo28; clear rFo28
  have rB := below_chain B.out (by omega) hb'; clear B; have B := Lib.hid rB; clear rB
  clear hb hb'
  go_wp2_with fail
  have fx_c14_a0_0 := Ext.cell c14_a0_0
  have fx_c14_a0_1 := Ext.cell c14_a0_1
  have fx_c14_a0_2 := Ext.cell c14_a0_2
  have fx_c14_a1_0 := Ext.cell c14_a1_0
  have fx_c14_a1_1 := Ext.cell c14_a1_1
  have fx_c14_a2_0 := Ext.cell c14_a2_0
  have fx_c14_a2_1 := Ext.cell c14_a2_1
  have fx_c14_a3_0 := Ext.cell c14_a3_0
  have fx_c14_a3_1 := Ext.cell c14_a3_1
  have fx_c14_a3_2 := Ext.cell c14_a3_2
  have fx_c14_o21_0 := Ext.cell c14_o21_0
  have fx_c14_o21_1 := Ext.cell c14_o21_1
  have fx_c14_o21_2 := Ext.cell c14_o21_2
  have fx_c14_o23_0 := Ext.cell c14_o23_0
  have fx_c14_o23_1 := Ext.cell c14_o23_1
  have fx_c14_o25_0 := Ext.cell c14_o25_0
  have fx_c14_o25_1 := Ext.cell c14_o25_1
  have fx_c14_o28_0 := Ext.cell c14_o28_0
  have fx_c14_o28_1 := Ext.cell c14_o28_1
  have fx_c14_o28_2 := Ext.cell c14_o28_2
  refine Mix.wp_region_mix [3, 3, 1, 1, 0] (fun w' => ∃ x : Ext w14, w' = x.w) (by kernel_rfl) (by kernel_rfl) (InExt.drew _) ?_
  repeat (first | (refine Mix.wpMix_read (by rfl) ?_; go_big_quiet_step (fail); refine wpQuiet_nil ?_) | (refine Mix.wpMix_pure (by rfl) ?_; go_big_quiet_step (fail); refine wpQuiet_nil ?_))
  refine Mix.wpMix_chg (by rfl) (fun K hK => ?_)
  go_wp2_with fail
  refine (toMachine_c _ _ _ _ _ _ _ (by exact (P0.out.rd)) (by omega)).mono ?_
  rintro e w15 ⟨g029, rfl, q15, hb⟩
  have hb' : Below w14.heap.size w14 w15 := (by first | (with_reducible exact hb) | (with_reducible exact up1 hb) | (with_reducible exact up2 hb) | (with_reducible exact up3 hb) | (with_reducible exact up4 hb) | (with_reducible exact below_of_drew hb) | (with_reducible exact below_of_drew (up1 hb)))
  have z15 := hb'.size
  have c15_a0_0 : w15.cell? ⟨w.heap.size, 0, none⟩ = some (.int .i64 sy0) := keepc hb' c14_a0_0
  clear c14_a0_0 ac14_a0_0
  have c15_a0_1 : w15.cell? ⟨w.heap.size, 1, none⟩ = some (.int .i64 st0) := keepc hb' c14_a0_1
  clear c14_a0_1 ac14_a0_1
  have c15_a0_2 : w15.cell? ⟨w.heap.size, 2, none⟩ = some (.slice A0 n0 c0) := keepc hb' c14_a0_2
  clear c14_a0_2 ac14_a0_2
  have c15_a1_0 : w15.cell? ⟨(w.heap.size + 1), 0, none⟩ = some (.int .i64 st1) := keepc hb' c14_a1_0
  clear c14_a1_0 ac14_a1_0
  have c15_a1_1 : w15.cell? ⟨(w.heap.size + 1), 1, none⟩ = some (.slice A1 n1 c1) := keepc hb' c14_a1_1
  clear c14_a1_1 ac14_a1_1
  have c15_a2_0 : w15.cell? ⟨(w.heap.size + 1 + 1), 0, none⟩ = some (.int .i64 st2) := keepc hb' c14_a2_0
  clear c14_a2_0 ac14_a2_0
  have c15_a2_1 : w15.cell? ⟨(w.heap.size + 1 + 1), 1, none⟩ = some (.slice A2 n2 c2) := keepc hb' c14_a2_1
  clear c14_a2_1 ac14_a2_1
  have c15_a3_0 : w15.cell? ⟨(w.heap.size + 1 + 1 + 1), 0, none⟩ = some (.int .i64 st3) := keepc hb' c14_a3_0
  clear c14_a3_0 ac14_a3_0
  have c15_a3_1 : w15.cell? ⟨(w.heap.size + 1 + 1 + 1), 1, none⟩ = some (.slice A3 n3 c3) := keepc hb' c14_a3_1
  clear c14_a3_1 ac14_a3_1
  have c15_a3_2 : w15.cell? ⟨(w.heap.size + 1 + 1 + 1), 2, none⟩ = some (.slice B3 m3 d3) := keepc hb' c14_a3_2
  clear c14_a3_2 ac14_a3_2
  have c15_o21_0 : w15.cell? ⟨w10.heap.size, 0, none⟩ = some (.int .i64 sy0) := keepc hb' c14_o21_0
  clear c14_o21_0 ac14_o21_0
  have c15_o21_1 : w15.cell? ⟨w10.heap.size, 1, none⟩ = some (.int .i64 st0) := keepc hb' c14_o21_1
  clear c14_o21_1 ac14_o21_1
  have c15_o21_2 : w15.cell? ⟨w10.heap.size, 2, none⟩ = some (.slice (some ⟨g020, 0, none⟩) n0 n0) := keepc hb' c14_o21_2
  clear c14_o21_2 ac14_o21_2
  have c15_o23_0 : w15.cell? ⟨w11.heap.size, 0, none⟩ = some (.int .i64 st1) := keepc hb' c14_o23_0
  clear c14_o23_0 ac14_o23_0
  have c15_o23_1 : w15.cell? ⟨w11.heap.size, 1, none⟩ = some (.slice (some ⟨g22, 0, none⟩) n1 n1) := keepc hb' c14_o23_1
  clear c14_o23_1 ac14_o23_1
  have c15_o25_0 : w15.cell? ⟨w12.heap.size, 0, none⟩ = some (.int .i64 st2) := keepc hb' c14_o25_0
  clear c14_o25_0 ac14_o25_0
  have c15_o25_1 : w15.cell? ⟨w12.heap.size, 1, none⟩ = some (.slice (some ⟨g24, 0, none⟩) n2 n2) := keepc hb' c14_o25_1
  clear c14_o25_1 ac14_o25_1
  have c15_o28_0 : w15.cell? ⟨w13.heap.size, 0, none⟩ = some (.int .i64 st3) := keepc hb' c14_o28_0
  clear c14_o28_0 ac14_o28_0
  have c15_o28_1 : w15.cell? ⟨w13.heap.size, 1, none⟩ = some (.slice (some ⟨g026, 0, none⟩) n3 n3) := keepc hb' c14_o28_1
  clear c14_o28_1 ac14_o28_1
  have c15_o28_2 : w15.cell? ⟨w13.heap.size, 2, none⟩ = some (.slice (some ⟨g127, 0, none⟩) m3 m3) := keepc hb' c14_o28_2
  clear c14_o28_2 ac14_o28_2
  have ac15_a0_0 := fun o => keepa o c15_a0_0
  have ac15_a0_1 := fun o => keepa o c15_a0_1
  have ac15_a0_2 := fun o => keepa o c15_a0_2
  have ac15_a1_0 := fun o => keepa o c15_a1_0
  have ac15_a1_1 := fun o => keepa o c15_a1_1
  have ac15_a2_0 := fun o => keepa o c15_a2_0
  have ac15_a2_1 := fun o => keepa o c15_a2_1
  have ac15_a3_0 := fun o => keepa o c15_a3_0
  have ac15_a3_1 := fun o => keepa o c15_a3_1
  have ac15_a3_2 := fun o => keepa o c15_a3_2
  have ac15_o21_0 := fun o => keepa o c15_o21_0
  have ac15_o21_1 := fun o => keepa o c15_o21_1
  have ac15_o21_2 := fun o => keepa o c15_o21_2
  have ac15_o23_0 := fun o => keepa o c15_o23_0
  have ac15_o23_1 := fun o => keepa o c15_o23_1
  have ac15_o25_0 := fun o => keepa o c15_o25_0
  have ac15_o25_1 := fun o => keepa o c15_o25_1
  have ac15_o28_0 := fun o => keepa o c15_o28_0
  have ac15_o28_1 := fun o => keepa o c15_o28_1
  have ac15_o28_2 := fun o => keepa o c15_o28_2
  have rP0 := P0.out.below hb'; clear P0; have P0 := Lib.hid rP0; clear rP0
  have rP1 := P1.out.below hb'; clear P1; have P1 := Lib.hid rP1; clear rP1
  have rP2 := P2.out.below hb'; clear P2; have P2 := Lib.hid rP2; clear rP2
  have rP3 := P3.out.below hb'; clear P3; have P3 := Lib.hid rP3; clear rP3
  have rFo21 := Fo21.out.below hb'; clear Fo21; have Fo21 := Lib.hid rFo21; clear rFo21
  have rFo23 := Fo23.out.below hb'; clear Fo23; have Fo23 := Lib.hid rFo23; clear rFo23
  have rFo25 := Fo25.out.below hb'; clear Fo25; have Fo25 := Lib.hid rFo25; clear rFo25
  have rFo28 := Fo28.out.below hb'; clear Fo28; have Fo28 := Lib.hid rFo28; clear rFo28
  have rB := below_chain B.out (by omega) hb'; clear B; have B := Lib.hid rB; clear rB
  have Fo30 := Lib.hid q15; clear q15
  have em15 : Below w14.heap.size w14 w15 := hb'
  clear hb hb'
  go_wp2_with fail
  refine hK _ _ ⟨⟨_, em15⟩, rfl⟩ ?_
  clear hK K
  refine Mix.wpMix_chg (by rfl) (fun K hK => ?_)
  go_wp2_with fail
  refine (eqMachine_t _ _ _ _ _ _ _ _ _ _ (by exact (Fo21.out.rd)) (by exact (Fo30.out.rd)) (by omega)).mono ?_
  rintro e w16 ⟨rfl, hb⟩
  have hb' : Below w15.heap.size w15 w16 := (by first | (with_reducible exact hb) | (with_reducible exact up1 hb) | (with_reducible exact up2 hb) | (with_reducible exact up3 hb) | (with_reducible exact up4 hb) | (with_reducible exact below_of_drew hb) | (with_reducible exact below_of_drew (up1 hb)))
  have z16 := hb'.size
  have c16_a0_0 : w16.cell? ⟨w.heap.size, 0, none⟩ = some (.int .i64 sy0) := keepc hb' c15_a0_0
  clear c15_a0_0 ac15_a0_0
  have c16_a0_1 : w16.cell? ⟨w.heap.size, 1, none⟩ = some (.int .i64 st0) := keepc hb' c15_a0_1
  clear c15_a0_1 ac15_a0_1
  have c16_a0_2 : w16.cell? ⟨w.heap.size, 2, none⟩ = some (.slice A0 n0 c0) := keepc hb' c15_a0_2
  clear c15_a0_2 ac15_a0_2
  have c16_a1_0 : w16.cell? ⟨(w.heap.size + 1), 0, none⟩ = some (.int .i64 st1) := keepc hb' c15_a1_0
  clear c15_a1_0 ac15_a1_0
  have c16_a1_1 : w16.cell? ⟨(w.heap.size + 1), 1, none⟩ = some (.slice A1 n1 c1) := keepc hb' c15_a1_1
  clear c15_a1_1 ac15_a1_1
  have c16_a2_0 : w16.cell? ⟨(w.heap.size + 1 + 1), 0, none⟩ = some (.int .i64 st2) := keepc hb' c15_a2_0
  clear c15_a2_0 ac15_a2_0
  have c16_a2_1 : w16.cell? ⟨(w.heap.size + 1 + 1), 1, none⟩ = some (.slice A2 n2 c2) := keepc hb' c15_a2_1
  clear c15_a2_1 ac15_a2_1
  have c16_a3_0 : w16.cell? ⟨(w.heap.size + 1 + 1 + 1), 0, none⟩ = some (.int .i64 st3) := keepc hb' c15_a3_0
  clear c15_a3_0 ac15_a3_0
  have c16_a3_1 : w16.cell? ⟨(w.heap.size + 1 + 1 + 1), 1, none⟩ = some (.slice A3 n3 c3) := keepc hb' c15_a3_1
  clear c15_a3_1 ac15_a3_1
  have c16_a3_2 : w16.cell? ⟨(w.heap.size + 1 + 1 + 1), 2, none⟩ = some (.slice B3 m3 d3) := keepc hb' c15_a3_2
  clear c15_a3_2 ac15_a3_2
  have c16_o21_0 : w16.cell? ⟨w10.heap.size, 0, none⟩ = some (.int .i64 sy0) := keepc hb' c15_o21_0
  clear c15_o21_0 ac15_o21_0
  have c16_o21_1 : w16.cell? ⟨w10.heap.size, 1, none⟩ = some (.int .i64 st0) := keepc hb' c15_o21_1
  clear c15_o21_1 ac15_o21_1
  have c16_o21_2 : w16.cell? ⟨w10.heap.size, 2, none⟩ = some (.slice (some ⟨g020, 0, none⟩) n0 n0) := keepc hb' c15_o21_2
  clear c15_o21_2 ac15_o21_2
  have c16_o23_0 : w16.cell? ⟨w11.heap.size, 0, none⟩ = some (.int .i64 st1) := keepc hb' c15_o23_0
  clear c15_o23_0 ac15_o23_0
  have c16_o23_1 : w16.cell? ⟨w11.heap.size, 1, none⟩ = some (.slice (some ⟨g22, 0, none⟩) n1 n1) := keepc hb' c15_o23_1
  clear c15_o23_1 ac15_o23_1
  have c16_o25_0 : w16.cell? ⟨w12.heap.size, 0, none⟩ = some (.int .i64 st2) := keepc hb' c15_o25_0
  clear c15_o25_0 ac15_o25_0
  have c16_o25_1 : w16.cell? ⟨w12.heap.size, 1, none⟩ = some (.slice (some ⟨g24, 0, none⟩) n2 n2) := keepc hb' c15_o25_1
  clear c15_o25_1 ac15_o25_1
  have c16_o28_0 : w16.cell? ⟨w13.heap.size, 0, none⟩ = some (.int .i64 st3) := keepc hb' c15_o28_0
  clear c15_o28_0 ac15_o28_0
  have c16_o28_1 : w16.cell? ⟨w13.heap.size, 1, none⟩ = some (.slice (some ⟨g026, 0, none⟩) n3 n3) := keepc hb' c15_o28_1
  clear c15_o28_1 ac15_o28_1
  have c16_o28_2 : w16.cell? ⟨w13.heap.size, 2, none⟩ = some (.slice (some ⟨g127, 0, none⟩) m3 m3) := keepc hb' c15_o28_2
  clear c15_o28_2 ac15_o28_2
  have ac16_a0_0 := fun o => keepa o c16_a0_0
  have ac16_a0_1 := fun o => keepa o c16_a0_1
  have ac16_a0_2 := fun o => keepa o c16_a0_2
  have ac16_a1_0 := fun o => keepa o c16_a1_0
  have ac16_a1_1 := fun o => keepa o c16_a1_1
  have ac16_a2_0 := fun o => keepa o c16_a2_0
  have ac16_a2_1 := fun o => keepa o c16_a2_1
  have ac16_a3_0 := fun o => keepa o c16_a3_0
  have ac16_a3_1 := fun o => keepa o c16_a3_1
  have ac16_a3_2 := fun o => keepa o c16_a3_2
  have ac16_o21_0 := fun o => keepa o c16_o21_0
  have ac16_o21_1 := fun o => keepa o c16_o21_1
  have ac16_o21_2 := fun o => keepa o c16_o21_2
  have ac16_o23_0 := fun o => keepa o c16_o23_0
  have ac16_o23_1 := fun o => keepa o c16_o23_1
  have ac16_o25_0 := fun o => keepa o c16_o25_0
  have ac16_o25_1 := fun o => keepa o c16_o25_1
  have ac16_o28_0 := fun o => keepa o c16_o28_0
  have ac16_o28_1 := fun o => keepa o c16_o28_1
  have ac16_o28_2 := fun o => keepa o c16_o28_2
  have rP0 := P0.out.below hb'; clear P0; have P0 := Lib.hid rP0; clear rP0
  have rP1 := P1.out.below hb'; clear P1; have P1 := Lib.hid rP1; clear rP1
  have rP2 := P2.out.below hb'; clear P2; have P2 := Lib.hid rP2; clear rP2
  have rP3 := P3.out.below hb'; clear P3; have P3 := Lib.hid rP3; clear rP3
  have rFo21 := Fo21.out.below hb'; clear Fo21; have Fo21 := Lib.hid rFo21; clear rFo21
  have rFo23 := Fo23.out.below hb'; clear Fo23; have Fo23 := Lib.hid rFo23; clear rFo23
  have rFo25 := Fo25.out.below hb'; clear Fo25; have Fo25 := Lib.hid rFo25; clear rFo25
  have rFo28 := Fo28.out.below hb'; clear Fo28; have Fo28 := Lib.hid rFo28; clear rFo28
  have rFo30 := Fo30.out.below hb'; clear Fo30; have Fo30 := Lib.hid rFo30; clear rFo30
  have rB := below_chain B.out (by omega) hb'; clear B; have B := Lib.hid rB; clear rB
  have em16 : Below w14.heap.size w14 w16 := below_chain em15 (by omega) hb'
  clear hb hb'
  go_wp2_with fail
  refine hK _ _ ⟨⟨_, em16⟩, rfl⟩ ?_
  clear hK K
  repeat (first | (refine Mix.wpMix_read (by rfl) ?_; go_big_quiet_step (fail); refine wpQuiet_nil ?_) | (refine Mix.wpMix_pure (by rfl) ?_; go_big_quiet_step (fail); refine wpQuiet_nil ?_))
  (refine Mix.wpMix_nil ?_; try simp only [Exit.then])
  clear fx_c14_a0_0
  clear fx_c14_a0_1
  clear fx_c14_a0_2
  clear fx_c14_a1_0
  clear fx_c14_a1_1
  clear fx_c14_a2_0
  clear fx_c14_a2_1
  clear fx_c14_a3_0
  clear fx_c14_a3_1
  clear fx_c14_a3_2
  clear fx_c14_o21_0
  clear fx_c14_o21_1
  clear fx_c14_o21_2
  clear fx_c14_o23_0
  clear fx_c14_o23_1
  clear fx_c14_o25_0
  clear fx_c14_o25_1
  clear fx_c14_o28_0
  clear fx_c14_o28_1
  clear fx_c14_o28_2
  clear Fo30
  go_wp2_with fail
  have fx_c16_a0_0 := Ext.cell c16_a0_0
  have fx_c16_a0_1 := Ext.cell c16_a0_1
  have fx_c16_a0_2 := Ext.cell c16_a0_2
  have fx_c16_a1_0 := Ext.cell c16_a1_0
  have fx_c16_a1_1 := Ext.cell c16_a1_1
  have fx_c16_a2_0 := Ext.cell c16_a2_0
  have fx_c16_a2_1 := Ext.cell c16_a2_1
  have fx_c16_a3_0 := Ext.cell c16_a3_0
  have fx_c16_a3_1 := Ext.cell c16_a3_1
  have fx_c16_a3_2 := Ext.cell c16_a3_2
  have fx_c16_o21_0 := Ext.cell c16_o21_0
  have fx_c16_o21_1 := Ext.cell c16_o21_1
  have fx_c16_o21_2 := Ext.cell c16_o21_2
  have fx_c16_o23_0 := Ext.cell c16_o23_0
  have fx_c16_o23_1 := Ext.cell c16_o23_1
  have fx_c16_o25_0 := Ext.cell c16_o25_0
  have fx_c16_o25_1 := Ext.cell c16_o25_1
  have fx_c16_o28_0 := Ext.cell c16_o28_0
  have fx_c16_o28_1 := Ext.cell c16_o28_1
  have fx_c16_o28_2 := Ext.cell c16_o28_2
  refine Mix.wp_region_mix [3, 3, 1, 1, 0] (fun w' => ∃ x : Ext w16, w' = x.w) (by kernel_rfl) (by kernel_rfl) (InExt.drew _) ?_
  repeat (first | (refine Mix.wpMix_read (by rfl) ?_; go_big_quiet_step (fail); refine wpQuiet_nil ?_) | (refine Mix.wpMix_pure (by rfl) ?_; go_big_quiet_step (fail); refine wpQuiet_nil ?_))
  refine Mix.wpMix_chg (by rfl) (fun K hK => ?_)
  go_wp2_with fail
  refine (toDfa_c _ _ _ _ _ _ (by exact (P1.out.1)) (by omega)).mono ?_
  rintro e w17 ⟨g31, rfl, q17, hb⟩
  have hb' : Below w16.heap.size w16 w17 := (by first | (with_reducible exact hb) | (with_reducible exact up1 hb) | (with_reducible exact up2 hb) | (with_reducible exact up3 hb) | (with_reducible exact up4 hb) | (with_reducible exact below_of_drew hb) | (with_reducible exact below_of_drew (up1 hb)))
  have z17 := hb'.size
  have c17_a0_0 : w17.cell? ⟨w.heap.size, 0, none⟩ = some (.int .i64 sy0) := keepc hb' c16_a0_0
  clear c16_a0_0 ac16_a0_0
  have c17_a0_1 : w17.cell? ⟨w.heap.size, 1, none⟩ = some (.int .i64 st0) := keepc hb' c16_a0_1
  clear c16_a0_1 ac16_a0_1
  have c17_a0_2 : w17.cell? ⟨w.heap.size, 2, none⟩ = some (.slice A0 n0 c0) := keepc hb' c16_a0_2
  clear c16_a0_2 ac16_a0_2
  have c17_a1_0 : w17.cell? ⟨(w.heap.size + 1), 0, none⟩ = some (.int .i64 st1) := keepc hb' c16_a1_0
  clear c16_a1_0 ac16_a1_0
  have c17_a1_1 : w17.cell? ⟨(w.heap.size + 1), 1, none⟩ = some (.slice A1 n1 c1) := keepc hb' c16_a1_1
  clear c16_a1_1 ac16_a1_1
  have c17_a2_0 : w17.cell? ⟨(w.heap.size + 1 + 1), 0, none⟩ = some (.int .i64 st2) := keepc hb' c16_a2_0
  clear c16_a2_0 ac16_a2_0
  have c17_a2_1 : w17.cell? ⟨(w.heap.size + 1 + 1), 1, none⟩ = some (.slice A2 n2 c2) := keepc hb' c16_a2_1
  clear c16_a2_1 ac16_a2_1
  have c17_a3_0 : w17.cell? ⟨(w.heap.size + 1 + 1 + 1), 0, none⟩ = some (.int .i64 st3) := keepc hb' c16_a3_0
  clear c16_a3_0 ac16_a3_0
  have c17_a3_1 : w17.cell? ⟨(w.heap.size + 1 + 1 + 1), 1, none⟩ = some (.slice A3 n3 c3) := keepc hb' c16_a3_1
  clear c16_a3_1 ac16_a3_1
  have c17_a3_2 : w17.cell? ⟨(w.heap.size + 1 + 1 + 1), 2, none⟩ = some (.slice B3 m3 d3) := keepc hb' c16_a3_2
  clear c16_a3_2 ac16_a3_2
  have c17_o21_0 : w17.cell? ⟨w10.heap.size, 0, none⟩ = some (.int .i64 sy0) := keepc hb' c16_o21_0
  clear c16_o21_0 ac16_o21_0
  have c17_o21_1 : w17.cell? ⟨w10.heap.size, 1, none⟩ = some (.int .i64 st0) := keepc hb' c16_o21_1
  clear c16_o21_1 ac16_o21_1
  have c17_o21_2 : w17.cell? ⟨w10.heap.size, 2, none⟩ = some (.slice (some ⟨g020, 0, none⟩) n0 n0) := keepc hb' c16_o21_2
  clear c16_o21_2 ac16_o21_2
  have c17_o23_0 : w17.cell? ⟨w11.heap.size, 0, none⟩ = some (.int .i64 st1) := keepc hb' c16_o23_0
  clear c16_o23_0 ac16_o23_0
  have c17_o23_1 : w17.cell? ⟨w11.heap.size, 1, none⟩ = some (.slice (some ⟨g22, 0, none⟩) n1 n1) := keepc hb' c16_o23_1
  clear c16_o23_1 ac16_o23_1
  have c17_o25_0 : w17.cell? ⟨w12.heap.size, 0, none⟩ = some (.int .i64 st2) := keepc hb' c16_o25_0
  clear c16_o25_0 ac16_o25_0
  have c17_o25_1 : w17.cell? ⟨w12.heap.size, 1, none⟩ = some (.slice (some ⟨g24, 0, none⟩) n2 n2) := keepc hb' c16_o25_1
  clear c16_o25_1 ac16_o25_1
  have c17_o28_0 : w17.cell? ⟨w13.heap.size, 0, none⟩ = some (.int .i64 st3) := keepc hb' c16_o28_0
  clear c16_o28_0 ac16_o28_0
  have c17_o28_1 : w17.cell? ⟨w13.heap.size, 1, none⟩ = some (.slice (some ⟨g026, 0, none⟩) n3 n3) := keepc hb' c16_o28_1
  clear c16_o28_1 ac16_o28_1
  have c17_o28_2 : w17.cell? ⟨w13.heap.size, 2, none⟩ = some (.slice (some ⟨g127, 0, none⟩) m3 m3) := keepc hb' c16_o28_2
  clear c16_o28_2 ac16_o28_2
  have ac17_a0_0 := fun o => keepa o c17_a0_0
  have ac17_a0_1 := fun o => keepa o c17_a0_1
  have ac17_a0_2 := fun o => keepa o c17_a0_2
  have ac17_a1_0 := fun o => keepa o c17_a1_0
  have ac17_a1_1 := fun o => keepa o c17_a1_1
  have ac17_a2_0 := fun o => keepa o c17_a2_0
  have ac17_a2_1 := fun o => keepa o c17_a2_1
  have ac17_a3_0 := fun o => keepa o c17_a3_0
  have ac17_a3_1 := fun o => keepa o c17_a3_1
  have ac17_a3_2 := fun o => keepa o c17_a3_2
  have ac17_o21_0 := fun o => keepa o c17_o21_0
  have ac17_o21_1 := fun o => keepa o c17_o21_1
  have ac17_o21_2 := fun o => keepa o c17_o21_2
  have ac17_o23_0 := fun o => keepa o c17_o23_0
  have ac17_o23_1 := fun o => keepa o c17_o23_1
  have ac17_o25_0 := fun o => keepa o c17_o25_0
  have ac17_o25_1 := fun o => keepa o c17_o25_1
  have ac17_o28_0 := fun o => keepa o c17_o28_0
  have ac17_o28_1 := fun o => keepa o c17_o28_1
  have ac17_o28_2 := fun o => keepa o c17_o28_2
  have rP0 := P0.out.below hb'; clear P0; have P0 := Lib.hid rP0; clear rP0
  have rP1 := P1.out.below hb'; clear P1; have P1 := Lib.hid rP1; clear rP1
  have rP2 := P2.out.below hb'; clear P2; have P2 := Lib.hid rP2; clear rP2
  have rP3 := P3.out.below hb'; clear P3; have P3 := Lib.hid rP3; clear rP3
  have rFo21 := Fo21.out.below hb'; clear Fo21; have Fo21 := Lib.hid rFo21; clear rFo21
  have rFo23 := Fo23.out.below hb'; clear Fo23; have Fo23 := Lib.hid rFo23; clear rFo23
  have rFo25 := Fo25.out.below hb'; clear Fo25; have Fo25 := Lib.hid rFo25; clear rFo25
  have rFo28 := Fo28.out.below hb'; clear Fo28; have Fo28 := Lib.hid rFo28; clear rFo28
  have rB := below_chain B.out (by omega) hb'; clear B; have B := Lib.hid rB; clear rB
  have Fo32 := Lib.hid q17; clear q17
  have em17 : Below w16.heap.size w16 w17 := hb'
  clear hb hb'
  go_wp2_with fail
  refine hK _ _ ⟨⟨_, em17⟩, rfl⟩ ?_
  clear hK K
  refine Mix.wpMix_chg (by rfl) (fun K hK => ?_)
  go_wp2_with fail
  refine (eqDfa_t _ _ _ _ _ _ _ _ _ (by exact (Fo23.out.rdI)) (by exact (Fo32.out.rdI)) (by omega)).mono ?_
  rintro e w18 ⟨rfl, hb⟩
  have hb' : Below w17.heap.size w17 w18 := (by first | (with_reducible exact hb) | (with_reducible exact up1 hb) | (with_reducible exact up2 hb) | (with_reducible exact up3 hb) | (with_reducible exact up4 hb) | (with_reducible exact below_of_drew hb) | (with_reducible exact below_of_drew (up1 hb)))
  have z18 := hb'.size
  have c18_a0_0 : w18.cell? ⟨w.heap.size, 0, none⟩ = some (.int .i64 sy0) := keepc hb' c17_a0_0
  clear c17_a0_0 ac17_a0_0
  have c18_a0_1 : w18.cell? ⟨w.heap.size, 1, none⟩ = some (.int .i64 st0) := keepc hb' c17_a0_1
  clear c17_a0_1 ac17_a0_1
  have c18_a0_2 : w18.cell? ⟨w.heap.size, 2, none⟩ = some (.slice A0 n0 c0) := keepc hb' c17_a0_2
  clear c17_a0_2 ac17_a0_2
  have c18_a1_0 : w18.cell? ⟨(w.heap.size + 1), 0, none⟩ = some (.int .i64 st1) := keepc hb' c17_a1_0
  clear c17_a1_0 ac17_a1_0
  have c18_a1_1 : w18.cell? ⟨(w.heap.size + 1), 1, none⟩ = some (.slice A1 n1 c1) := keepc hb' c17_a1_1
  clear c17_a1_1 ac17_a1_1
  have c18_a2_0 : w18.cell? ⟨(w.heap.size + 1 + 1), 0, none⟩ = some (.int .i64 st2) := keepc hb' c17_a2_0
  clear c17_a2_0 ac17_a2_0
  have c18_a2_1 : w18.cell? ⟨(w.heap.size + 1 + 1), 1, none⟩ = some (.slice A2 n2 c2) := keepc hb' c17_a2_1
  clear c17_a2_1 ac17_a2_1
  have c18_a3_0 : w18.cell? ⟨(w.heap.size + 1 + 1 + 1), 0, none⟩ = some (.int .i64 st3) := keepc hb' c17_a3_0
  clear c17_a3_0 ac17_a3_0
  have c18_a3_1 : w18.cell? ⟨(w.heap.size + 1 + 1 + 1), 1, none⟩ = some (.slice A3 n3 c3) := keepc hb' c17_a3_1
  clear c17_a3_1 ac17_a3_1
  have c18_a3_2 : w18.cell? ⟨(w.heap.size + 1 + 1 + 1), 2, none⟩ = some (.slice B3 m3 d3) := keepc hb' c17_a3_2
  clear c17_a3_2 ac17_a3_2
  have c18_o21_0 : w18.cell? ⟨w10.heap.size, 0, none⟩ = some (.int .i64 sy0) := keepc hb' c17_o21_0
  clear c17_o21_0 ac17_o21_0
  have c18_o21_1 : w18.cell? ⟨w10.heap.size, 1, none⟩ = some (.int .i64 st0) := keepc hb' c17_o21_1
  clear c17_o21_1 ac17_o21_1
  have c18_o21_2 : w18.cell? ⟨w10.heap.size, 2, none⟩ = some (.slice (some ⟨g020, 0, none⟩) n0 n0) := keepc hb' c17_o21_2
  clear c17_o21_2 ac17_o21_2
  have c18_o23_0 : w18.cell? ⟨w11.heap.size, 0, none⟩ = some (.int .i64 st1) := keepc hb' c17_o23_0
  clear c17_o23_0 ac17_o23_0
  have c18_o23_1 : w18.cell? ⟨w11.heap.size, 1, none⟩ = some (.slice (some ⟨g22, 0, none⟩) n1 n1) := keepc hb' c17_o23_1
  clear c17_o23_1 ac17_o23_1
  have c18_o25_0 : w18.cell? ⟨w12.heap.size, 0, none⟩ = some (.int .i64 st2) := keepc hb' c17_o25_0
  clear c17_o25_0 ac17_o25_0
  have c18_o25_1 : w18.cell? ⟨w12.heap.size, 1, none⟩ = some (.slice (some ⟨g24, 0, none⟩) n2 n2) := keepc hb' c17_o25_1
  clear c17_o25_1 ac17_o25_1
  have c18_o28_0 : w18.cell? ⟨w13.heap.size, 0, none⟩ = some (.int .i64 st3) := keepc hb' c17_o28_0
  clear c17_o28_0 ac17_o28_0
  have c18_o28_1 : w18.cell? ⟨w13.heap.size, 1, none⟩ = some (.slice (some ⟨g026, 0, none⟩) n3 n3) := keepc hb' c17_o28_1
  clear c17_o28_1 ac17_o28_1
  have c18_o28_2 : w18.cell? ⟨w13.heap.size, 2, none⟩ = some (.slice (some ⟨g127, 0, none⟩) m3 m3) := keepc hb' c17_o28_2
  clear c17_o28_2 ac17_o28_2
  have ac18_a0_0 := fun o => keepa o c18_a0_0
  have ac18_a0_1 := fun o => keepa o c18_a0_1
  have ac18_a0_2 := fun o => keepa o c18_a0_2
  have ac18_a1_0 := fun o => keepa o c18_a1_0
  have ac18_a1_1 := fun o => keepa o c18_a1_1
  have ac18_a2_0 := fun o => keepa o c18_a2_0
  have ac18_a2_1 := fun o => keepa o c18_a2_1
  have ac18_a3_0 := fun o => keepa o c18_a3_0
  have ac18_a3_1 := fun o => keepa o c18_a3_1
  have ac18_a3_2 := fun o => keepa o c18_a3_2
  have ac18_o21_0 := fun o => keepa o c18_o21_0
  have ac18_o21_1 := fun o => keepa o c18_o21_1
  have ac18_o21_2 := fun o => keepa o c18_o21_2
  have ac18_o23_0 := fun o => keepa o c18_o23_0
  have ac18_o23_1 := fun o => keepa o c18_o23_1
  have ac18_o25_0 := fun o => keepa o c18_o25_0
  have ac18_o25_1 := fun o => keepa o c18_o25_1
  have ac18_o28_0 := fun o => keepa o c18_o28_0
  have ac18_o28_1 := fun o => keepa o c18_o28_1
  have ac18_o28_2 := fun o => keepa o c18_o28_2
  have rP0 := P0.out.below hb'; clear P0; have P0 := Lib.hid rP0; clear rP0
  have rP1 := P1.out.below hb'; clear P1; have P1 := Lib.hid rP1; clear rP1
  have rP2 := P2.out.below hb'; clear P2; have P2 := Lib.hid rP2; clear rP2
  have rP3 := P3.out.below hb'; clear P3; have P3 := Lib.hid rP3; clear rP3
  have rFo21 := Fo21.out.below hb'; clear Fo21; have Fo21 := Lib.hid rFo21; clear rFo21
  have rFo23 := Fo23.out.below hb'; clear Fo23; have Fo23 := Lib.hid rFo23; clear rFo23
  have rFo25 := Fo25.out.below hb'; clear Fo25; have Fo25 := Lib.hid rFo25; clear rFo25
  have rFo28 := Fo28.out.below hb'; clear Fo28; have Fo28 := Lib.hid rFo28; clear rFo28
  have rFo32 := Fo32.out.below hb'; clear Fo32; have Fo32 := Lib.hid rFo32; clear rFo32
  have rB := below_chain B.out (by omega) hb'; clear B; have B := Lib.hid rB; clear rB
  have em18 : Below w16.heap.size w16 w18 := below_chain em17 (by omega) hb'
  clear hb hb'
  go_wp2_with fail
  refine hK _ _ ⟨⟨_, em18⟩, rfl⟩ ?_
  clear hK K
  repeat (first | (refine Mix.wpMix_read (by rfl) ?_; go_big_quiet_step (fail); refine wpQuiet_nil ?_) | (refine Mix.wpMix_pure (by rfl) ?_; go_big_quiet_step (fail); refine wpQuiet_nil ?_))
  (refine Mix.wpMix_nil ?_; try simp only [Exit.then])
  clear fx_c16_a0_0
  clear fx_c16_a0_1
  clear fx_c16_a0_2
  clear fx_c16_a1_0
  clear fx_c16_a1_1
  clear fx_c16_a2_0
  clear fx_c16_a2_1
  clear fx_c16_a3_0
  clear fx_c16_a3_1
  clear fx_c16_a3_2
  clear fx_c16_o21_0
  clear fx_c16_o21_1
  clear fx_c16_o21_2
  clear fx_c16_o23_0
  clear fx_c16_o23_1
  clear fx_c16_o25_0
  clear fx_c16_o25_1
  clear fx_c16_o28_0
  clear fx_c16_o28_1
  clear fx_c16_o28_2
  clear Fo32
  go_wp2_with fail
  have fx_c18_a0_0 := Ext.cell c18_a0_0
  have fx_c18_a0_1 := Ext.cell c18_a0_1
  have fx_c18_a0_2 := Ext.cell c18_a0_2
  have fx_c18_a1_0 := Ext.cell c18_a1_0
  have fx_c18_a1_1 := Ext.cell c18_a1_1
  have fx_c18_a2_0 := Ext.cell c18_a2_0
  have fx_c18_a2_1 := Ext.cell c18_a2_1
  have fx_c18_a3_0 := Ext.cell c18_a3_0
  have fx_c18_a3_1 := Ext.cell c18_a3_1
  have fx_c18_a3_2 := Ext.cell c18_a3_2
  have fx_c18_o21_0 := Ext.cell c18_o21_0
  have fx_c18_o21_1 := Ext.cell c18_o21_1
  have fx_c18_o21_2 := Ext.cell c18_o21_2
  have fx_c18_o23_0 := Ext.cell c18_o23_0
  have fx_c18_o23_1 := Ext.cell c18_o23_1
  have fx_c18_o25_0 := Ext.cell c18_o25_0
  have fx_c18_o25_1 := Ext.cell c18_o25_1
  have fx_c18_o28_0 := Ext.cell c18_o28_0
  have fx_c18_o28_1 := Ext.cell c18_o28_1
  have fx_c18_o28_2 := Ext.cell c18_o28_2
  refine Mix.wp_region_mix [3, 3, 1, 1, 0] (fun w' => ∃ x : Ext w18, w' = x.w) (by kernel_rfl) (by kernel_rfl) (InExt.drew _) ?_
  repeat (first | (refine Mix.wpMix_read (by rfl) ?_; go_big_quiet_step (fail); refine wpQuiet_nil ?_) | (refine Mix.wpMix_pure (by rfl) ?_; go_big_quiet_step (fail); refine wpQuiet_nil ?_))
  refine Mix.wpMix_chg (by rfl) (fun K hK => ?_)
  go_wp2_with fail
  refine (toDfa_c _ _ _ _ _ _ (by exact (P2.out.1)) (by omega)).mono ?_
  rintro e w19 ⟨g33, rfl, q19, hb⟩
  have hb' : Below w18.heap.size w18 w19 := (by first | (with_reducible exact hb) | (with_reducible exact up1 hb) | (with_reducible exact up2 hb) | (with_reducible exact up3 hb) | (with_reducible exact up4 hb) | (with_reducible exact below_of_drew hb) | (with_reducible exact below_of_drew (up1 hb)))
  have z19 := hb'.size
  have c19_a0_0 : w19.cell? ⟨w.heap.size, 0, none⟩ = some (.int .i64 sy0) := keepc hb' c18_a0_0
  clear c18_a0_0 ac18_a0_0
  have c19_a0_1 : w19.cell? ⟨w.heap.size, 1, none⟩ = some (.int .i64 st0) := keepc hb' c18_a0_1
  clear c18_a0_1 ac18_a0_1
  have c19_a0_2 : w19.cell? ⟨w.heap.size, 2, none⟩ = some (.slice A0 n0 c0) := keepc hb' c18_a0_2
  clear c18_a0_2 ac18_a0_2
  have c19_a1_0 : w19.cell? ⟨(w.heap.size + 1), 0, none⟩ = some (.int .i64 st1) := keepc hb' c18_a1_0
  clear c18_a1_0 ac18_a1_0
  have c19_a1_1 : w19.cell? ⟨(w.heap.size + 1), 1, none⟩ = some (.slice A1 n1 c1) := keepc hb' c18_a1_1
  clear c18_a1_1 ac18_a1_1
  have c19_a2_0 : w19.cell? ⟨(w.heap.size + 1 + 1), 0, none⟩ = some (.int .i64 st2) := keepc hb' c18_a2_0
  clear c18_a2_0 ac18_a2_0
  have c19_a2_1 : w19.cell? ⟨(w.heap.size + 1 + 1), 1, none⟩ = some (.slice A2 n2 c2) := keepc hb' c18_a2_1
  clear c18_a2_1 ac18_a2_1
  have c19_a3_0 : w19.cell? ⟨(w.heap.size + 1 + 1 + 1), 0, none⟩ = some (.int .i64 st3) := keepc hb' c18_a3_0
  clear c18_a3_0 ac18_a3_0
  have c19_a3_1 : w19.cell? ⟨(w.heap.size + 1 + 1 + 1), 1, none⟩ = some (.slice A3 n3 c3) := keepc hb' c18_a3_1
  clear c18_a3_1 ac18_a3_1
  have c19_a3_2 : w19.cell? ⟨(w.heap.size + 1 + 1 + 1), 2, none⟩ = some (.slice B3 m3 d3) := keepc hb' c18_a3_2
  clear c18_a3_2 ac18_a3_2
  have c19_o21_0 : w19.cell? ⟨w10.heap.size, 0, none⟩ = some (.int .i64 sy0) := keepc hb' c18_o21_0
  clear c18_o21_0 ac18_o21_0
  have c19_o21_1 : w19.cell? ⟨w10.heap.size, 1, none⟩ = some (.int .i64 st0) := keepc hb' c18_o21_1
  clear c18_o21_1 ac18_o21_1
  have c19_o21_2 : w19.cell? ⟨w10.heap.size, 2, none⟩ = some (.slice (some ⟨g020, 0, none⟩) n0 n0) := keepc hb' c18_o21_2
  clear c18_o21_2 ac18_o21_2
  have c19_o23_0 : w19.cell? ⟨w11.heap.size, 0, none⟩ = some (.int .i64 st1) := keepc hb' c18_o23_0
  clear c18_o23_0 ac18_o23_0
  have c19_o23_1 : w19.cell? ⟨w11.heap.size, 1, none⟩ = some (.slice (some ⟨g22, 0, none⟩) n1 n1) := keepc hb' c18_o23_1
  clear c18_o23_1 ac18_o23_1
  have c19_o25_0 : w19.cell? ⟨w12.heap.size, 0, none⟩ = some (.int .i64 st2) := keepc hb' c18_o25_0
  clear c18_o25_0 ac18_o25_0
  have c19_o25_1 : w19.cell? ⟨w12.heap.size, 1, none⟩ = some (.slice (some ⟨g24, 0, none⟩) n2 n2) := keepc hb' c18_o25_1
  clear c18_o25_1 ac18_o25_1
  have c19_o28_0 : w19.cell? ⟨w13.heap.size, 0, none⟩ = some (.int .i64 st3) := keepc hb' c18_o28_0
  clear c18_o28_0 ac18_o28_0
  have c19_o28_1 : w19.cell? ⟨w13.heap.size, 1, none⟩ = some (.slice (some ⟨g026, 0, none⟩) n3 n3) := keepc hb' c18_o28_1
  clear c18_o28_1 ac18_o28_1
  have c19_o28_2 : w19.cell? ⟨w13.heap.size, 2, none⟩ = some (.slice (some ⟨g127, 0, none⟩) m3 m3) := keepc hb' c18_o28_2
  clear c18_o28_2 ac18_o28_2
  have ac19_a0_0 := fun o => keepa o c19_a0_0
  have ac19_a0_1 := fun o => keepa o c19_a0_1
  have ac19_a0_2 := fun o => keepa o c19_a0_2
  have ac19_a1_0 := fun o => keepa o c19_a1_0
  have ac19_a1_1 := fun o => keepa o c19_a1_1
  have ac19_a2_0 := fun o => keepa o c19_a2_0
  have ac19_a2_1 := fun o => keepa o c19_a2_1
  have ac19_a3_0 := fun o => keepa o c19_a3_0
  have ac19_a3_1 := fun o => keepa o c19_a3_1
  have ac19_a3_2 := fun o => keepa o c19_a3_2
  have ac19_o21_0 := fun o => keepa o c19_o21_0
  have ac19_o21_1 := fun o => keepa o c19_o21_1
  have ac19_o21_2 := fun o => keepa o c19_o21_2
  have ac19_o23_0 := fun o => keepa o c19_o23_0
  have ac19_o23_1 := fun o => keepa o c19_o23_1
  have ac19_o25_0 := fun o => keepa o c19_o25_0
  have ac19_o25_1 := fun o => keepa o c19_o25_1
  have ac19_o28_0 := fun o => keepa o c19_o28_0
  have ac19_o28_1 := fun o => keepa o c19_o28_1
  have ac19_o28_2 := fun o => keepa o c19_o28_2
  have rP0 := P0.out.below hb'; clear P0; have P0 := Lib.hid rP0; clear rP0
  have rP1 := P1.out.below hb'; clear P1; have P1 := Lib.hid rP1; clear rP1
  have rP2 := P2.out.below hb'; clear P2; have P2 := Lib.hid rP2; clear rP2
  have rP3 := P3.out.below hb'; clear P3; have P3 := Lib.hid rP3; clear rP3
  have rFo21 := Fo21.out.below hb'; clear Fo21; have Fo21 := Lib.hid rFo21; clear rFo21
  have rFo23 := Fo23.out.below hb'; clear Fo23; have Fo23 := Lib.hid rFo23; clear rFo23
  have rFo25 := Fo25.out.below hb'; clear Fo25; have Fo25 := Lib.hid rFo25; clear rFo25
  have rFo28 := Fo28.out.below hb'; clear Fo28; have Fo28 := Lib.hid rFo28; clear rFo28
  have rB := below_chain B.out (by omega) hb'; clear B; have B := Lib.hid rB; clear rB
  have Fo34 := Lib.hid q19; clear q19
  have em19 : Below w18.heap.size w18 w19 := hb'
  clear hb hb'
  go_wp2_with fail
  refine hK _ _ ⟨⟨_, em19⟩, rfl⟩ ?_
  clear hK K
  refine Mix.wpMix_chg (by rfl) (fun K hK => ?_)
  go_wp2_with fail
  refine (eqDfa_t _ _ _ _ _ _ _ _ _ (by exact (Fo25.out.rdI)) (by exact (Fo34.out.rdI)) (by omega)).mono ?_
  rintro e w20 ⟨rfl, hb⟩
  have hb' : Below w19.heap.size w19 w20 := (by first | (with_reducible exact hb) | (with_reducible exact up1 hb) | (with_reducible exact up2 hb) | (with_reducible exact up3 hb) | (with_reducible exact up4 hb) | (with_reducible exact below_of_drew hb) | (with_reducible exact below_of_drew (up1 hb)))
  have z20 := hb'.size
  have c20_a0_0 : w20.cell? ⟨w.heap.size, 0, none⟩ = some (.int .i64 sy0) := keepc hb' c19_a0_0
  clear c19_a0_0 ac19_a0_0
  have c20_a0_1 : w20.cell? ⟨w.heap.size, 1, none⟩ = some (.int .i64 st0) := keepc hb' c19_a0_1
  clear c19_a0_1 ac19_a0_1
  have c20_a0_2 : w20.cell? ⟨w.heap.size, 2, none⟩ = some (.slice A0 n0 c0) := keepc hb' c19_a0_2
  clear c19_a0_2 ac19_a0_2
  have c20_a1_0 : w20.cell? ⟨(w.heap.size + 1), 0, none⟩ = some (.int .i64 st1) := keepc hb' c19_a1_0
  clear c19_a1_0 ac19_a1_0
  have c20_a1_1 : w20.cell? ⟨(w.heap.size + 1), 1, none⟩ = some (.slice A1 n1 c1) := keepc hb' c19_a1_1
  clear c19_a1_1 ac19_a1_1
  have c20_a2_0 : w20.cell? ⟨(w.heap.size + 1 + 1), 0, none⟩ = some (.int .i64 st2) := keepc hb' c19_a2_0
  clear c19_a2_0 ac19_a2_0
  have c20_a2_1 : w20.cell? ⟨(w.heap.size + 1 + 1), 1, none⟩ = some (.slice A2 n2 c2) := keepc hb' c19_a2_1
  clear c19_a2_1 ac19_a2_1
  have c20_a3_0 : w20.cell? ⟨(w.heap.size + 1 + 1 + 1), 0, none⟩ = some (.int .i64 st3) := keepc hb' c19_a3_0
  clear c19_a3_0 ac19_a3_0
  have c20_a3_1 : w20.cell? ⟨(w.heap.size + 1 + 1 + 1), 1, none⟩ = some (.slice A3 n3 c3) := keepc hb' c19_a3_1
  clear c19_a3_1 ac19_a3_1
  have c20_a3_2 : w20.cell? ⟨(w.heap.size + 1 + 1 + 1), 2, none⟩ = some (.slice B3 m3 d3) := keepc hb' c19_a3_2
  clear c19_a3_2 ac19_a3_2
  have c20_o21_0 : w20.cell? ⟨w10.heap.size, 0, none⟩ = some (.int .i64 sy0) := keepc hb' c19_o21_0
  clear c19_o21_0 ac19_o21_0
  have c20_o21_1 : w20.cell? ⟨w10.heap.size, 1, none⟩ = some (.int .i64 st0) := keepc hb' c19_o21_1
  clear c19_o21_1 ac19_o21_1
  have c20_o21_2 : w20.cell? ⟨w10.heap.size, 2, none⟩ = some (.slice (some ⟨g020, 0, none⟩) n0 n0) := keepc hb' c19_o21_2
  clear c19_o21_2 ac19_o21_2
  have c20_o23_0 : w20.cell? ⟨w11.heap.size, 0, none⟩ = some (.int .i64 st1) := keepc hb' c19_o23_0
  clear c19_o23_0 ac19_o23_0
  have c20_o23_1 : w20.cell? ⟨w11.heap.size, 1, none⟩ = some (.slice (some ⟨g22, 0, none⟩) n1 n1) := keepc hb' c19_o23_1
  clear c19_o23_1 ac19_o23_1
  have c20_o25_0 : w20.cell? ⟨w12.heap.size, 0, none⟩ = some (.int .i64 st2) := keepc hb' c19_o25_0
  clear c19_o25_0 ac19_o25_0
  have c20_o25_1 : w20.cell? ⟨w12.heap.size, 1, none⟩ = some (.slice (some ⟨g24, 0, none⟩) n2 n2) := keepc hb' c19_o25_1
  clear c19_o25_1 ac19_o25_1
  have c20_o28_0 : w20.cell? ⟨w13.heap.size, 0, none⟩ = some (.int .i64 st3) := keepc hb' c19_o28_0
  clear c19_o28_0 ac19_o28_0
  have c20_o28_1 : w20.cell? ⟨w13.heap.size, 1, none⟩ = some (.slice (some ⟨g026, 0, none⟩) n3 n3) := keepc hb' c19_o28_1
  clear c19_o28_1 ac19_o28_1
  have c20_o28_2 : w20.cell? ⟨w13.heap.size, 2, none⟩ = some (.slice (some ⟨g127, 0, none⟩) m3 m3) := keepc hb' c19_o28_2
  clear c19_o28_2 ac19_o28_2
  have ac20_a0_0 := fun o => keepa o c20_a0_0
  have ac20_a0_1 := fun o => keepa o c20_a0_1
  have ac20_a0_2 := fun o => keepa o c20_a0_2
  have ac20_a1_0 := fun o => keepa o c20_a1_0
  have ac20_a1_1 := fun o => keepa o c20_a1_1
  have ac20_a2_0 := fun o => keepa o c20_a2_0
  have ac20_a2_1 := fun o => keepa o c20_a2_1
  have ac20_a3_0 := fun o => keepa o c20_a3_0
  have ac20_a3_1 := fun o => keepa o c20_a3_1
  have ac20_a3_2 := fun o => keepa o c20_a3_2
  have ac20_o21_0 := fun o => keepa o c20_o21_0
  have ac20_o21_1 := fun o => keepa o c20_o21_1
  have ac20_o21_2 := fun o => keepa o c20_o21_2
  have ac20_o23_0 := fun o => keepa o c20_o23_0
  have ac20_o23_1 := fun o => keepa o c20_o23_1
  have ac20_o25_0 := fun o => keepa o c20_o25_0
  have ac20_o25_1 := fun o => keepa o c20_o25_1
  have ac20_o28_0 := fun o => keepa o c20_o28_0
  have ac20_o28_1 := fun o => keepa o c20_o28_1
  have ac20_o28_2 := fun o => keepa o c20_o28_2
  have rP0 := P0.out.below hb'; clear P0; have P0 := Lib.hid rP0; clear rP0
  have rP1 := P1.out.below hb'; clear P1; have P1 := Lib.hid rP1; clear rP1
  have rP2 := P2.out.below hb'; clear P2; have P2 := Lib.hid rP2; clear rP2
  have rP3 := P3.out.below hb'; clear P3; have P3 := Lib.hid rP3; clear rP3
  have rFo21 := Fo21.out.below hb'; clear Fo21; have Fo21 := Lib.hid rFo21; clear rFo21
  have rFo23 := Fo23.out.below hb'; clear Fo23; have Fo23 := Lib.hid rFo23; clear rFo23
  have rFo25 := Fo25.out.below hb'; clear Fo25; have Fo25 := Lib.hid rFo25; clear rFo25
  have rFo28 := Fo28.out.below hb'; clear Fo28; have Fo28 := Lib.hid rFo28; clear rFo28
  have rFo34 := Fo34.out.below hb'; clear Fo34; have Fo34 := Lib.hid rFo34; clear rFo34
  have rB := below_chain B.out (by omega) hb'; clear B; have B := Lib.hid rB; clear rB
  have em20 : Below w18.heap.size w18 w20 := below_chain em19 (by omega) hb'
  clear hb hb'
  go_wp2_with fail
  refine hK _ _ ⟨⟨_, em20⟩, rfl⟩ ?_
  clear hK K
  repeat (first | (refine Mix.wpMix_read (by rfl) ?_; go_big_quiet_step (fail); refine wpQuiet_nil ?_) | (refine Mix.wpMix_pure (by rfl) ?_; go_big_quiet_step (fail); refine wpQuiet_nil ?_))
  (refine Mix.wpMix_nil ?_; try simp only [Exit.then])
  clear fx_c18_a0_0
  clear fx_c18_a0_1
  clear fx_c18_a0_2
  clear fx_c18_a1_0
  clear fx_c18_a1_1
  clear fx_c18_a2_0
  clear fx_c18_a2_1
  clear fx_c18_a3_0
  clear fx_c18_a3_1
  clear fx_c18_a3_2
  clear fx_c18_o21_0
  clear fx_c18_o21_1
  clear fx_c18_o21_2
  clear fx_c18_o23_0
  clear fx_c18_o23_1
  clear fx_c18_o25_0
  clear fx_c18_o25_1
  clear fx_c18_o28_0
  clear fx_c18_o28_1
  clear fx_c18_o28_2
  clear Fo34
  go_wp2_with fail
  have fx_c20_a0_0 := Ext.cell c20_a0_0
  have fx_c20_a0_1 := Ext.cell c20_a0_1
  have fx_c20_a0_2 := Ext.cell c20_a0_2
  have fx_c20_a1_0 := Ext.cell c20_a1_0
  have fx_c20_a1_1 := Ext.cell c20_a1_1
  have fx_c20_a2_0 := Ext.cell c20_a2_0
  have fx_c20_a2_1 := Ext.cell c20_a2_1
  have fx_c20_a3_0 := Ext.cell c20_a3_0
  have fx_c20_a3_1 := Ext.cell c20_a3_1
  have fx_c20_a3_2 := Ext.cell c20_a3_2
  have fx_c20_o21_0 := Ext.cell c20_o21_0
  have fx_c20_o21_1 := Ext.cell c20_o21_1
  have fx_c20_o21_2 := Ext.cell c20_o21_2
  have fx_c20_o23_0 := Ext.cell c20_o23_0
  have fx_c20_o23_1 := Ext.cell c20_o23_1
  have fx_c20_o25_0 := Ext.cell c20_o25_0
  have fx_c20_o25_1 := Ext.cell c20_o25_1
  have fx_c20_o28_0 := Ext.cell c20_o28_0
  have fx_c20_o28_1 := Ext.cell c20_o28_1
  have fx_c20_o28_2 := Ext.cell c20_o28_2
  refine Mix.wp_region_mix [3, 3, 1, 1, 0] (fun w' => ∃ x : Ext w20, w' = x.w) (by kernel_rfl) (by kernel_rfl) (InExt.drew _) ?_
  repeat (first | (refine Mix.wpMix_read (by rfl) ?_; go_big_quiet_step (fail); refine wpQuiet_nil ?_) | (refine Mix.wpMix_pure (by rfl) ?_; go_big_quiet_step (fail); refine wpQuiet_nil ?_))
  refine Mix.wpMix_chg (by rfl) (fun K hK => ?_)
  go_wp2_with fail
  refine (toConfig_c _ _ _ _ _ _ _ _ _ _ (by exact (P3.out.rd)) (by omega) (by omega)).mono ?_
  rintro e w21 ⟨g035, g136, rfl, q21, hb⟩
  have hb' : Below w20.heap.size w20 w21 := (by first | (with_reducible exact hb) | (with_reducible exact up1 hb) | (with_reducible exact up2 hb) | (with_reducible exact up3 hb) | (with_reducible exact up4 hb) | (with_reducible exact below_of_drew hb) | (with_reducible exact below_of_drew (up1 hb)))
  have z21 := hb'.size
  have c21_a0_0 : w21.cell? ⟨w.heap.size, 0, none⟩ = some (.int .i64 sy0) := keepc hb' c20_a0_0
  clear c20_a0_0 ac20_a0_0
  have c21_a0_1 : w21.cell? ⟨w.heap.size, 1, none⟩ = some (.int .i64 st0) := keepc hb' c20_a0_1
  clear c20_a0_1 ac20_a0_1
  have c21_a0_2 : w21.cell? ⟨w.heap.size, 2, none⟩ = some (.slice A0 n0 c0) := keepc hb' c20_a0_2
  clear c20_a0_2 ac20_a0_2
  have c21_a1_0 : w21.cell? ⟨(w.heap.size + 1), 0, none⟩ = some (.int .i64 st1) := keepc hb' c20_a1_0
  clear c20_a1_0 ac20_a1_0
  have c21_a1_1 : w21.cell? ⟨(w.heap.size + 1), 1, none⟩ = some (.slice A1 n1 c1) := keepc hb' c20_a1_1
  clear c20_a1_1 ac20_a1_1
  have c21_a2_0 : w21.cell? ⟨(w.heap.size + 1 + 1), 0, none⟩ = some (.int .i64 st2) := keepc hb' c20_a2_0
  clear c20_a2_0 ac20_a2_0
  have c21_a2_1 : w21.cell? ⟨(w.heap.size + 1 + 1), 1, none⟩ = some (.slice A2 n2 c2) := keepc hb' c20_a2_1
  clear c20_a2_1 ac20_a2_1
  have c21_a3_0 : w21.cell? ⟨(w.heap.size + 1 + 1 + 1), 0, none⟩ = some (.int .i64 st3) := keepc hb' c20_a3_0
  clear c20_a3_0 ac20_a3_0
  have c21_a3_1 : w21.cell? ⟨(w.heap.size + 1 + 1 + 1), 1, none⟩ = some (.slice A3 n3 c3) := keepc hb' c20_a3_1
  clear c20_a3_1 ac20_a3_1
  have c21_a3_2 : w21.cell? ⟨(w.heap.size + 1 + 1 + 1), 2, none⟩ = some (.slice B3 m3 d3) := keepc hb' c20_a3_2
  clear c20_a3_2 ac20_a3_2
  have c21_o21_0 : w21.cell? ⟨w10.heap.size, 0, none⟩ = some (.int .i64 sy0) := keepc hb' c20_o21_0
  clear c20_o21_0 ac20_o21_0
  have c21_o21_1 : w21.cell? ⟨w10.heap.size, 1, none⟩ = some (.int .i64 st0) := keepc hb' c20_o21_1
  clear c20_o21_1 ac20_o21_1
  have c21_o21_2 : w21.cell? ⟨w10.heap.size, 2, none⟩ = some (.slice (some ⟨g020, 0, none⟩) n0 n0) := keepc hb' c20_o21_2
  clear c20_o21_2 ac20_o21_2
  have c21_o23_0 : w21.cell? ⟨w11.heap.size, 0, none⟩ = some (.int .i64 st1) := keepc hb' c20_o23_0
  clear c20_o23_0 ac20_o23_0
  have c21_o23_1 : w21.cell? ⟨w11.heap.size, 1, none⟩ = some (.slice (some ⟨g22, 0, none⟩) n1 n1) := keepc hb' c20_o23_1
  clear c20_o23_1 ac20_o23_1
  have c21_o25_0 : w21.cell? ⟨w12.heap.size, 0, none⟩ = some (.int .i64 st2) := keepc hb' c20_o25_0
  clear c20_o25_0 ac20_o25_0
  have c21_o25_1 : w21.cell? ⟨w12.heap.size, 1, none⟩ = some (.slice (some ⟨g24, 0, none⟩) n2 n2) := keepc hb' c20_o25_1
  clear c20_o25_1 ac20_o25_1
  have c21_o28_0 : w21.cell? ⟨w13.heap.size, 0, none⟩ = some (.int .i64 st3) := keepc hb' c20_o28_0
  clear c20_o28_0 ac20_o28_0
  have c21_o28_1 : w21.cell? ⟨w13.heap.size, 1, none⟩ = some (.slice (some ⟨g026, 0, none⟩) n3 n3) := keepc hb' c20_o28_1
  clear c20_o28_1 ac20_o28_1
  have c21_o28_2 : w21.cell? ⟨w13.heap.size, 2, none⟩ = some (.slice (some ⟨g127, 0, none⟩) m3 m3) := keepc hb' c20_o28_2
  clear c20_o28_2 ac20_o28_2
  have ac21_a0_0 := fun o => keepa o c21_a0_0
  have ac21_a0_1 := fun o => keepa o c21_a0_1
  have ac21_a0_2 := fun o => keepa o c21_a0_2
  have ac21_a1_0 := fun o => keepa o c21_a1_0
  have ac21_a1_1 := fun o => keepa o c21_a1_1
  have ac21_a2_0 := fun o => keepa o c21_a2_0
  have ac21_a2_1 := fun o => keepa o c21_a2_1
  have ac21_a3_0 := fun o => keepa o c21_a3_0
  have ac21_a3_1 := fun o => keepa o c21_a3_1
  have ac21_a3_2 := fun o => keepa o c21_a3_2
  have ac21_o21_0 := fun o => keepa o c21_o21_0
  have ac21_o21_1 := fun o => keepa o c21_o21_1
  have ac21_o21_2 := fun o => keepa o c21_o21_2
  have ac21_o23_0 := fun o => keepa o c21_o23_0
  have ac21_o23_1 := fun o => keepa o c21_o23_1
  have ac21_o25_0 := fun o => keepa o c21_o25_0
  have ac21_o25_1 := fun o => keepa o c21_o25_1
  have ac21_o28_0 := fun o => keepa o c21_o28_0
  have ac21_o28_1 := fun o => keepa o c21_o28_1
  have ac21_o28_2 := fun o => keepa o c21_o28_2
  have rP0 := P0.out.below hb'; clear P0; have P0 := Lib.hid rP0; clear rP0
  have rP1 := P1.out.below hb'; clear P1; have P1 := Lib.hid rP1; clear rP1
  have rP2 := P2.out.below hb'; clear P2; have P2 := Lib.hid rP2; clear rP2
  have rP3 := P3.out.below hb'; clear P3; have P3 := Lib.hid rP3; clear rP3
  have rFo21 := Fo21.out.below hb'; clear Fo21; have Fo21 := Lib.hid rFo21; clear rFo21
  have rFo23 := Fo23.out.below hb'; clear Fo23; have Fo23 := Lib.hid rFo23; clear rFo23
  have rFo25 := Fo25.out.below hb'; clear Fo25; have Fo25 := Lib.hid rFo25; clear rFo25
  have rFo28 := Fo28.out.below hb'; clear Fo28; have Fo28 := Lib.hid rFo28; clear rFo28
  have rB := below_chain B.out (by omega) hb'; clear B; have B := Lib.hid rB; clear rB
  have Fo37 := Lib.hid q21; clear q21
  have em21 : Below w20.heap.size w20 w21 := hb'
  clear hb hb'
  go_wp2_with fail
  refine hK _ _ ⟨⟨_, em21⟩, rfl⟩ ?_
  clear hK K
  refine Mix.wpMix_chg (by rfl) (fun K hK => ?_)
  go_wp2_with fail
  refine (eqConfig_t _ _ _ _ _ _ _ _ _ _ _ _ _ _ _ _ (by exact (Fo28.out.rd)) (by exact (Fo37.out.rd)) (by omega) (by omega)).mono ?_
  rintro e w22 ⟨rfl, hb⟩
  have hb' : Below w21.heap.size w21 w22 := (by first | (with_reducible exact hb) | (with_reducible exact up1 hb) | (with_reducible exact up2 hb) | (with_reducible exact up3 hb) | (with_reducible exact up4 hb) | (with_reducible exact below_of_drew hb) | (with_reducible exact below_of_drew (up1 hb)))
  have z22 := hb'.size
  have c22_a0_0 : w22.cell? ⟨w.heap.size, 0, none⟩ = some (.int .i64 sy0) := keepc hb' c21_a0_0
  clear c21_a0_0 ac21_a0_0
  have c22_a0_1 : w22.cell? ⟨w.heap.size, 1, none⟩ = some (.int .i64 st0) := keepc hb' c21_a0_1
  clear c21_a0_1 ac21_a0_1
  have c22_a0_2 : w22.cell? ⟨w.heap.size, 2, none⟩ = some (.slice A0 n0 c0) := keepc hb' c21_a0_2
  clear c21_a0_2 ac21_a0_2
  have c22_a1_0 : w22.cell? ⟨(w.heap.size + 1), 0, none⟩ = some (.int .i64 st1) := keepc hb' c21_a1_0
  clear c21_a1_0 ac21_a1_0
  have c22_a1_1 : w22.cell? ⟨(w.heap.size + 1), 1, none⟩ = some (.slice A1 n1 c1) := keepc hb' c21_a1_1
  clear c21_a1_1 ac21_a1_1
  have c22_a2_0 : w22.cell? ⟨(w.heap.size + 1 + 1), 0, none⟩ = some (.int .i64 st2) := keepc hb' c21_a2_0
  clear c21_a2_0 ac21_a2_0
  have c22_a2_1 : w22.cell? ⟨(w.heap.size + 1 + 1), 1, none⟩ = some (.slice A2 n2 c2) := keepc hb' c21_a2_1
  clear c21_a2_1 ac21_a2_1
  have c22_a3_0 : w22.cell? ⟨(w.heap.size + 1 + 1 + 1), 0, none⟩ = some (.int .i64 st3) := keepc hb' c21_a3_0
  clear c21_a3_0 ac21_a3_0
  have c22_a3_1 : w22.cell? ⟨(w.heap.size + 1 + 1 + 1), 1, none⟩ = some (.slice A3 n3 c3) := keepc hb' c21_a3_1
  clear c21_a3_1 ac21_a3_1
  have c22_a3_2 : w22.cell? ⟨(w.heap.size + 1 + 1 + 1), 2, none⟩ = some (.slice B3 m3 d3) := keepc hb' c21_a3_2
  clear c21_a3_2 ac21_a3_2
  have c22_o21_0 : w22.cell? ⟨w10.heap.size, 0, none⟩ = some (.int .i64 sy0) := keepc hb' c21_o21_0
  clear c21_o21_0 ac21_o21_0
  have c22_o21_1 : w22.cell? ⟨w10.heap.size, 1, none⟩ = some (.int .i64 st0) := keepc hb' c21_o21_1
  clear c21_o21_1 ac21_o21_1
  have c22_o21_2 : w22.cell? ⟨w10.heap.size, 2, none⟩ = some (.slice (some ⟨g020, 0, none⟩) n0 n0) := keepc hb' c21_o21_2
  clear c21_o21_2 ac21_o21_2
  have c22_o23_0 : w22.cell? ⟨w11.heap.size, 0, none⟩ = some (.int .i64 st1) := keepc hb' c21_o23_0
  clear c21_o23_0 ac21_o23_0
  have c22_o23_1 : w22.cell? ⟨w11.heap.size, 1, none⟩ = some (.slice (some ⟨g22, 0, none⟩) n1 n1) := keepc hb' c21_o23_1
  clear c21_o23_1 ac21_o23_1
  have c22_o25_0 : w22.cell? ⟨w12.heap.size, 0, none⟩ = some (.int .i64 st2) := keepc hb' c21_o25_0
  clear c21_o25_0 ac21_o25_0
  have c22_o25_1 : w22.cell? ⟨w12.heap.size, 1, none⟩ = some (.slice (some ⟨g24, 0, none⟩) n2 n2) := keepc hb' c21_o25_1
  clear c21_o25_1 ac21_o25_1
  have c22_o28_0 : w22.cell? ⟨w13.heap.size, 0, none⟩ = some (.int .i64 st3) := keepc hb' c21_o28_0
  clear c21_o28_0 ac21_o28_0
  have c22_o28_1 : w22.cell? ⟨w13.heap.size, 1, none⟩ = some (.slice (some ⟨g026, 0, none⟩) n3 n3) := keepc hb' c21_o28_1
  clear c21_o28_1 ac21_o28_1
  have c22_o28_2 : w22.cell? ⟨w13.heap.size, 2, none⟩ = some (.slice (some ⟨g127, 0, none⟩) m3 m3) := keepc hb' c21_o28_2
  clear c21_o28_2 ac21_o28_2
  have ac22_a0_0 := fun o => keepa o c22_a0_0
  have ac22_a0_1 := fun o => keepa o c22_a0_1
  have ac22_a0_2 := fun o => keepa o c22_a0_2
  have ac22_a1_0 := fun o => keepa o c22_a1_0
  have ac22_a1_1 := fun o => keepa o c22_a1_1
  have ac22_a2_0 := fun o => keepa o c22_a2_0
  have ac22_a2_1 := fun o => keepa o c22_a2_1
  have ac22_a3_0 := fun o => keepa o c22_a3_0
  have ac22_a3_1 := fun o => keepa o c22_a3_1
  have ac22_a3_2 := fun o => keepa o c22_a3_2
  have ac22_o21_0 := fun o => keepa o c22_o21_0
  have ac22_o21_1 := fun o => keepa o c22_o21_1
  have ac22_o21_2 := fun o => keepa o c22_o21_2
  have ac22_o23_0 := fun o => keepa o c22_o23_0
  have ac22_o23_1 := fun o => keepa o c22_o23_1
  have ac22_o25_0 := fun o => keepa o c22_o25_0
  have ac22_o25_1 := fun o => keepa o c22_o25_1
  have ac22_o28_0 := fun o => keepa o c22_o28_0
  have ac22_o28_1 := fun o => keepa o c22_o28_1
  have ac22_o28_2 := fun o => keepa o c22_o28_2
  have rP0 := P0.out.below hb'; clear P0; have P0 := Lib.hid rP0; clear rP0
  have rP1 := P1.out.below hb'; clear P1; have P1 := Lib.hid rP1; clear rP1
  have rP2 := P2.out.below hb'; clear P2; have P2 := Lib.hid rP2; clear rP2
  have rP3 := P3.out.below hb'; clear P3; have P3 := Lib.hid rP3; clear rP3
  have rFo21 := Fo21.out.below hb'; clear Fo21; have Fo21 := Lib.hid rFo21; clear rFo21
  have rFo23 := Fo23.out.below hb'; clear Fo23; have Fo23 := Lib.hid rFo23; clear rFo23
  have rFo25 := Fo25.out.below hb'; clear Fo25; have Fo25 := Lib.hid rFo25; clear rFo25
  have rFo28 := Fo28.out.below hb'; clear Fo28; have Fo28 := Lib.hid rFo28; clear rFo28
  have rFo37 := Fo37.out.below hb'; clear Fo37; have Fo37 := Lib.hid rFo37; clear rFo37
  have rB := below_chain B.out (by omega) hb'; clear B; have B := Lib.hid rB; clear rB
  have em22 : Below w20.heap.size w20 w22 := below_chain em21 (by omega) hb'
  clear hb hb'
  go_wp2_with fail
  refine hK _ _ ⟨⟨_, em22⟩, rfl⟩ ?_
  clear hK K
  repeat (first | (refine Mix.wpMix_read (by rfl) ?_; go_big_quiet_step (fail); refine wpQuiet_nil ?_) | (refine Mix.wpMix_pure (by rfl) ?_; go_big_quiet_step (fail); refine wpQuiet_nil ?_))
  (refine Mix.wpMix_nil ?_; try simp only [Exit.then])
  clear fx_c20_a0_0
  clear fx_c20_a0_1
  clear fx_c20_a0_2
  clear fx_c20_a1_0
  clear fx_c20_a1_1
  clear fx_c20_a2_0
  clear fx_c20_a2_1
  clear fx_c20_a3_0
  clear fx_c20_a3_1
  clear fx_c20_a3_2
  clear fx_c20_o21_0
  clear fx_c20_o21_1
  clear fx_c20_o21_2
  clear fx_c20_o23_0
  clear fx_c20_o23_1
  clear fx_c20_o25_0
  clear fx_c20_o25_1
  clear fx_c20_o28_0
  clear fx_c20_o28_1
  clear fx_c20_o28_2
  clear Fo37
  go_wp2
  go_ret
  exact ⟨rfl, B.out⟩
end Go.Proofs.Ytfahdgmlhinabaa
