/-
  FnExactRunDfa returns true for every input: its walk, out of the contracts.
-/
import Derived.Test.YtbpeagnldgefeaaLawDfa
import Derived.Test.YtbpeagnldgefeaaC28c
import Derived.Test.YtbpeagnldgefeaaOpen
namespace Go.Proofs.Ytbpeagnldgefeaa
open Go.RowKit

set_option maxHeartbeats 4000000 in
set_option maxRecDepth 100000 in
theorem walkRunDfa (st0 : Int) (A0 : Option Addr) (n0 : Nat) (c0 : Nat) (xs0 : List Int) (x1 : Int) (A2 : Option Addr) (n2 : Nat) (c2 : Nat) (xs2 : List Int) (w : World) (h0 : RdI w A0 n0 xs0) (hb0 : n0 ≤ 9223372036854775807) (_o0 : i64ok st0) (_oo0 : ∀ x ∈ xs0, i64ok x) (_o1 : i64ok x1) (h2 : RdI w A2 n2 xs2) (hb2 : n2 ≤ 9223372036854775807) (_oo2 : ∀ x ∈ xs2, i64ok x) :
    Calls Try.prog 8 #[.agg #[.int .i64 st0, .slice A0 n0 c0], .int .i64 x1, .slice A2 n2 c2] w fun e w' => e = .returned (.bool true) ∧ Below w.heap.size w w' := by
  have P0 := Lib.hid (RdU.mk' h0); clear h0
  have P2 := Lib.hid (RdU.mk' h2); clear h2
  by_cases hsa2 : 1048576 < n2
  · go_enter Try.func8, Try.ntmps8
    go_wp2
    go_ret
    exact ⟨rfl, below_size.alloc (Nat.le_refl _) _⟩
  go_enter Try.func8, Try.ntmps8
  go_wp2_with fail
  refine (szDfa_c _ _ _ _ _ _ hb0 (by omega) (by omega)).mono ?_
  rintro e w1 ⟨rfl, hb⟩
  have hb' : Below w.heap.size w w1 := (by first | (with_reducible exact hb) | (with_reducible exact up1 hb) | (with_reducible exact up2 hb) | (with_reducible exact up3 hb) | (with_reducible exact up4 hb) | (with_reducible exact below_of_drew hb) | (with_reducible exact below_of_drew (up1 hb)))
  have z1 := hb'.size
  have c1_a0_0 : w1.cell? ⟨w.heap.size, 0, none⟩ = some (.int .i64 st0) := keepc hb (by simp)
  have c1_a0_1 : w1.cell? ⟨w.heap.size, 1, none⟩ = some (.slice A0 n0 c0) := keepc hb (by simp)
  have rP0 := P0.out.below hb'; clear P0; have P0 := Lib.hid rP0; clear rP0
  have rP2 := P2.out.below hb'; clear P2; have P2 := Lib.hid rP2; clear rP2
  have rB := hb'; have B := Lib.hid rB; clear rB
  clear hb hb'
  by_cases hs1 : 1048576 < n0
  · rw [szOf_neg' (by omega)]
    go_wp2
    go_ret
    exact ⟨rfl, B.out⟩
  rw [szOf_pos' (by omega)]
  have hs1' : (0 : Int) ≤ 1048576 - (n0 : Nat) := by omega
  go_wp2_with fail
  refine (toDfa_c _ _ _ _ _ _ (by exact (P0.out.1)) (by omega)).mono ?_
  rintro e w2 ⟨g1, rfl, q2, hb⟩
  have hb' : Below w1.heap.size w1 w2 := (by first | (with_reducible exact hb) | (with_reducible exact up1 hb) | (with_reducible exact up2 hb) | (with_reducible exact up3 hb) | (with_reducible exact up4 hb) | (with_reducible exact below_of_drew hb) | (with_reducible exact below_of_drew (up1 hb)))
  have z2 := hb'.size
  have c2_a0_0 : w2.cell? ⟨w.heap.size, 0, none⟩ = some (.int .i64 st0) := keepc hb' c1_a0_0
  clear c1_a0_0
  have c2_a0_1 : w2.cell? ⟨w.heap.size, 1, none⟩ = some (.slice A0 n0 c0) := keepc hb' c1_a0_1
  clear c1_a0_1
  have rP0 := P0.out.below hb'; clear P0; have P0 := Lib.hid rP0; clear rP0
  have rP2 := P2.out.below hb'; clear P2; have P2 := Lib.hid rP2; clear rP2
  have rB := below_chain B.out (by omega) hb'; clear B; have B := Lib.hid rB; clear rB
  have Fo2 := Lib.hid q2; clear q2
  clear hb hb'
  go_wp2_with fail
  refine (toInt64S_c _ _ _ _ _ (by exact (P2.out.1)) (by omega)).mono ?_
  rintro e w3 ⟨rfl, q3, hb⟩
  have hb' : Below w2.heap.size w2 w3 := (by first | (with_reducible exact hb) | (with_reducible exact up1 hb) | (with_reducible exact up2 hb) | (with_reducible exact up3 hb) | (with_reducible exact up4 hb) | (with_reducible exact below_of_drew hb) | (with_reducible exact below_of_drew (up1 hb)))
  have z3 := hb'.size
  have c3_a0_0 : w3.cell? ⟨w.heap.size, 0, none⟩ = some (.int .i64 st0) := keepc hb' c2_a0_0
  clear c2_a0_0
  have c3_a0_1 : w3.cell? ⟨w.heap.size, 1, none⟩ = some (.slice A0 n0 c0) := keepc hb' c2_a0_1
  clear c2_a0_1
  have rP0 := P0.out.below hb'; clear P0; have P0 := Lib.hid rP0; clear rP0
  have rP2 := P2.out.below hb'; clear P2; have P2 := Lib.hid rP2; clear rP2
  have rFo2 := Fo2.out.below hb'; clear Fo2; have Fo2 := Lib.hid rFo2; clear rFo2
  have rB := below_chain B.out (by omega) hb'; clear B; have B := Lib.hid rB; clear rB
  have Fo3 := Lib.hid q3; clear q3
  clear hb hb'
  go_wp2_with fail
  refine (sRunDfa_c _ _ _ _ _ _ _ _ _ _ _ (by exact (Fo2.out.rdI)) (by exact (Fo3.out.rdI)) (by omega) (by omega)).mono ?_
  rintro e w4 ⟨rfl, hb⟩
  have hb' : Below w3.heap.size w3 w4 := (by first | (with_reducible exact hb) | (with_reducible exact up1 hb) | (with_reducible exact up2 hb) | (with_reducible exact up3 hb) | (with_reducible exact up4 hb) | (with_reducible exact below_of_drew hb) | (with_reducible exact below_of_drew (up1 hb)))
  have z4 := hb'.size
  have c4_a0_0 : w4.cell? ⟨w.heap.size, 0, none⟩ = some (.int .i64 st0) := keepc hb' c3_a0_0
  clear c3_a0_0
  have c4_a0_1 : w4.cell? ⟨w.heap.size, 1, none⟩ = some (.slice A0 n0 c0) := keepc hb' c3_a0_1
  clear c3_a0_1
  have rP0 := P0.out.below hb'; clear P0; have P0 := Lib.hid rP0; clear rP0
  have rP2 := P2.out.below hb'; clear P2; have P2 := Lib.hid rP2; clear rP2
  have rFo2 := Fo2.out.below hb'; clear Fo2; have Fo2 := Lib.hid rFo2; clear rFo2
  have rFo3 := Fo3.out.below hb'; clear Fo3; have Fo3 := Lib.hid rFo3; clear rFo3
  have rB := below_chain B.out (by omega) hb'; clear B; have B := Lib.hid rB; clear rB
  clear hb hb'
  go_wp2_with fail
  refine (toDfa_c _ _ _ _ _ _ (by exact (P0.out.1)) (by omega)).mono ?_
  rintro e w5 ⟨g4, rfl, q5, hb⟩
  have hb' : Below w4.heap.size w4 w5 := (by first | (with_reducible exact hb) | (with_reducible exact up1 hb) | (with_reducible exact up2 hb) | (with_reducible exact up3 hb) | (with_reducible exact up4 hb) | (with_reducible exact below_of_drew hb) | (with_reducible exact below_of_drew (up1 hb)))
  have z5 := hb'.size
  have c5_a0_0 : w5.cell? ⟨w.heap.size, 0, none⟩ = some (.int .i64 st0) := keepc hb' c4_a0_0
  clear c4_a0_0
  have c5_a0_1 : w5.cell? ⟨w.heap.size, 1, none⟩ = some (.slice A0 n0 c0) := keepc hb' c4_a0_1
  clear c4_a0_1
  have rP0 := P0.out.below hb'; clear P0; have P0 := Lib.hid rP0; clear rP0
  have rP2 := P2.out.below hb'; clear P2; have P2 := Lib.hid rP2; clear rP2
  have rFo2 := Fo2.out.below hb'; clear Fo2; have Fo2 := Lib.hid rFo2; clear rFo2
  have rFo3 := Fo3.out.below hb'; clear Fo3; have Fo3 := Lib.hid rFo3; clear rFo3
  have rB := below_chain B.out (by omega) hb'; clear B; have B := Lib.hid rB; clear rB
  have Fo5 := Lib.hid q5; clear q5
  clear hb hb'
  go_wp2_with fail
  refine (toInt64S_c _ _ _ _ _ (by exact ((P2.out.1).alloc _)) (by omega)).mono ?_
  rintro e w6 ⟨rfl, q6, hb⟩
  try simp only [World.size_alloc] at q6
  have hb' : Below w5.heap.size w5 w6 := (by first | (with_reducible exact hb) | (with_reducible exact up1 hb) | (with_reducible exact up2 hb) | (with_reducible exact up3 hb) | (with_reducible exact up4 hb) | (with_reducible exact below_of_drew hb) | (with_reducible exact below_of_drew (up1 hb)))
  have z6 := hb'.size
  have c6_a0_0 : w6.cell? ⟨w.heap.size, 0, none⟩ = some (.int .i64 st0) := keepc hb' c5_a0_0
  clear c5_a0_0
  have c6_a0_1 : w6.cell? ⟨w.heap.size, 1, none⟩ = some (.slice A0 n0 c0) := keepc hb' c5_a0_1
  clear c5_a0_1
  have c6_o5_0 : w6.cell? ⟨w5.heap.size, 0, none⟩ = some (.int .i64 st0) := keepc hb (by simp)
  have c6_o5_1 : w6.cell? ⟨w5.heap.size, 1, none⟩ = some (.slice (some ⟨g4, 0, none⟩) n0 n0) := keepc hb (by simp)
  have rP0 := P0.out.below hb'; clear P0; have P0 := Lib.hid rP0; clear rP0
  have rP2 := P2.out.below hb'; clear P2; have P2 := Lib.hid rP2; clear rP2
  have rFo2 := Fo2.out.below hb'; clear Fo2; have Fo2 := Lib.hid rFo2; clear rFo2
  have rFo3 := Fo3.out.below hb'; clear Fo3; have Fo3 := Lib.hid rFo3; clear rFo3
  have rFo5 := Fo5.out.below hb'; clear Fo5; have Fo5 := Lib.hid rFo5; clear rFo5
  have rB := below_chain B.out (by omega) hb'; clear B; have B := Lib.hid rB; clear rB
  have Fo6 := Lib.hid q6; clear q6
  clear hb hb'
  go_wp2_with fail
  refine (iRunDfa_c _ _ _ _ _ _ _ _ _ _ _ (by exact (Fo5.out.rdI)) (by exact (Fo6.out.rdI)) (by omega) (by omega)).mono ?_
  rintro e w7 ⟨rfl, hb⟩
  have hb' : Below w6.heap.size w6 w7 := (by first | (with_reducible exact hb) | (with_reducible exact up1 hb) | (with_reducible exact up2 hb) | (with_reducible exact up3 hb) | (with_reducible exact up4 hb) | (with_reducible exact below_of_drew hb) | (with_reducible exact below_of_drew (up1 hb)))
  have z7 := hb'.size
  have c7_a0_0 : w7.cell? ⟨w.heap.size, 0, none⟩ = some (.int .i64 st0) := keepc hb' c6_a0_0
  clear c6_a0_0
  have c7_a0_1 : w7.cell? ⟨w.heap.size, 1, none⟩ = some (.slice A0 n0 c0) := keepc hb' c6_a0_1
  clear c6_a0_1
  have c7_o5_0 : w7.cell? ⟨w5.heap.size, 0, none⟩ = some (.int .i64 st0) := keepc hb' c6_o5_0
  clear c6_o5_0
  have c7_o5_1 : w7.cell? ⟨w5.heap.size, 1, none⟩ = some (.slice (some ⟨g4, 0, none⟩) n0 n0) := keepc hb' c6_o5_1
  clear c6_o5_1
  have rP0 := P0.out.below hb'; clear P0; have P0 := Lib.hid rP0; clear rP0
  have rP2 := P2.out.below hb'; clear P2; have P2 := Lib.hid rP2; clear rP2
  have rFo2 := Fo2.out.below hb'; clear Fo2; have Fo2 := Lib.hid rFo2; clear rFo2
  have rFo3 := Fo3.out.below hb'; clear Fo3; have Fo3 := Lib.hid rFo3; clear rFo3
  have rFo5 := Fo5.out.below hb'; clear Fo5; have Fo5 := Lib.hid rFo5; clear rFo5
  have rFo6 := Fo6.out.below hb'; clear Fo6; have Fo6 := Lib.hid rFo6; clear rFo6
  have rB := below_chain B.out (by omega) hb'; clear B; have B := Lib.hid rB; clear rB
  clear hb hb'
  go_wp2_with fail
  have fx_c7_a0_0 := Ext.cell c7_a0_0
  have fx_c7_a0_1 := Ext.cell c7_a0_1
  have fx_c7_o5_0 := Ext.cell c7_o5_0
  have fx_c7_o5_1 := Ext.cell c7_o5_1
  refine Mix.wp_region_mix [3, 3, 1, 1, 0] (fun w' => ∃ x : Ext w7, w' = x.w) (by kernel_rfl) (by kernel_rfl) (InExt.drew _) ?_
  repeat (first | (refine Mix.wpMix_read (by rfl) ?_; go_big_quiet_step (fail); refine wpQuiet_nil ?_) | (refine Mix.wpMix_pure (by rfl) ?_; go_big_quiet_step (fail); refine wpQuiet_nil ?_))
  refine Mix.wpMix_chg (by rfl) (fun K hK => ?_)
  go_wp2_with fail
  refine (toDfa_c _ _ _ _ _ _ (by exact (P0.out.1)) (by omega)).mono ?_
  rintro e w8 ⟨g7, rfl, q8, hb⟩
  have hb' : Below w7.heap.size w7 w8 := (by first | (with_reducible exact hb) | (with_reducible exact up1 hb) | (with_reducible exact up2 hb) | (with_reducible exact up3 hb) | (with_reducible exact up4 hb) | (with_reducible exact below_of_drew hb) | (with_reducible exact below_of_drew (up1 hb)))
  have z8 := hb'.size
  have c8_a0_0 : w8.cell? ⟨w.heap.size, 0, none⟩ = some (.int .i64 st0) := keepc hb' c7_a0_0
  clear c7_a0_0
  have c8_a0_1 : w8.cell? ⟨w.heap.size, 1, none⟩ = some (.slice A0 n0 c0) := keepc hb' c7_a0_1
  clear c7_a0_1
  have c8_o5_0 : w8.cell? ⟨w5.heap.size, 0, none⟩ = some (.int .i64 st0) := keepc hb' c7_o5_0
  clear c7_o5_0
  have c8_o5_1 : w8.cell? ⟨w5.heap.size, 1, none⟩ = some (.slice (some ⟨g4, 0, none⟩) n0 n0) := keepc hb' c7_o5_1
  clear c7_o5_1
  have rP0 := P0.out.below hb'; clear P0; have P0 := Lib.hid rP0; clear rP0
  have rP2 := P2.out.below hb'; clear P2; have P2 := Lib.hid rP2; clear rP2
  have rFo2 := Fo2.out.below hb'; clear Fo2; have Fo2 := Lib.hid rFo2; clear rFo2
  have rFo3 := Fo3.out.below hb'; clear Fo3; have Fo3 := Lib.hid rFo3; clear rFo3
  have rFo5 := Fo5.out.below hb'; clear Fo5; have Fo5 := Lib.hid rFo5; clear rFo5
  have rFo6 := Fo6.out.below hb'; clear Fo6; have Fo6 := Lib.hid rFo6; clear rFo6
  have rB := below_chain B.out (by omega) hb'; clear B; have B := Lib.hid rB; clear rB
  have Fo8 := Lib.hid q8; clear q8
  have em8 : Below w7.heap.size w7 w8 := hb'
  clear hb hb'
  go_wp2_with fail
  refine hK _ _ ⟨⟨_, em8⟩, rfl⟩ ?_
  clear hK K
  refine Mix.wpMix_chg (by rfl) (fun K hK => ?_)
  go_wp2_with fail
  refine (eqDfa_t _ _ _ _ _ _ _ _ _ (by exact (Fo5.out.rdI)) (by exact (Fo8.out.rdI)) (by omega)).mono ?_
  rintro e w9 ⟨rfl, hb⟩
  have hb' : Below w8.heap.size w8 w9 := (by first | (with_reducible exact hb) | (with_reducible exact up1 hb) | (with_reducible exact up2 hb) | (with_reducible exact up3 hb) | (with_reducible exact up4 hb) | (with_reducible exact below_of_drew hb) | (with_reducible exact below_of_drew (up1 hb)))
  have z9 := hb'.size
  have c9_a0_0 : w9.cell? ⟨w.heap.size, 0, none⟩ = some (.int .i64 st0) := keepc hb' c8_a0_0
  clear c8_a0_0
  have c9_a0_1 : w9.cell? ⟨w.heap.size, 1, none⟩ = some (.slice A0 n0 c0) := keepc hb' c8_a0_1
  clear c8_a0_1
  have c9_o5_0 : w9.cell? ⟨w5.heap.size, 0, none⟩ = some (.int .i64 st0) := keepc hb' c8_o5_0
  clear c8_o5_0
  have c9_o5_1 : w9.cell? ⟨w5.heap.size, 1, none⟩ = some (.slice (some ⟨g4, 0, none⟩) n0 n0) := keepc hb' c8_o5_1
  clear c8_o5_1
  have rP0 := P0.out.below hb'; clear P0; have P0 := Lib.hid rP0; clear rP0
  have rP2 := P2.out.below hb'; clear P2; have P2 := Lib.hid rP2; clear rP2
  have rFo2 := Fo2.out.below hb'; clear Fo2; have Fo2 := Lib.hid rFo2; clear rFo2
  have rFo3 := Fo3.out.below hb'; clear Fo3; have Fo3 := Lib.hid rFo3; clear rFo3
  have rFo5 := Fo5.out.below hb'; clear Fo5; have Fo5 := Lib.hid rFo5; clear rFo5
  have rFo6 := Fo6.out.below hb'; clear Fo6; have Fo6 := Lib.hid rFo6; clear rFo6
  have rFo8 := Fo8.out.below hb'; clear Fo8; have Fo8 := Lib.hid rFo8; clear rFo8
  have rB := below_chain B.out (by omega) hb'; clear B; have B := Lib.hid rB; clear rB
  have em9 : Below w7.heap.size w7 w9 := below_chain em8 (by omega) hb'
  clear hb hb'
  go_wp2_with fail
  refine hK _ _ ⟨⟨_, em9⟩, rfl⟩ ?_
  clear hK K
  repeat (first | (refine Mix.wpMix_read (by rfl) ?_; go_big_quiet_step (fail); refine wpQuiet_nil ?_) | (refine Mix.wpMix_pure (by rfl) ?_; go_big_quiet_step (fail); refine wpQuiet_nil ?_))
  (refine Mix.wpMix_nil ?_; try simp only [Exit.then])
  clear fx_c7_a0_0
  clear fx_c7_a0_1
  clear fx_c7_o5_0
  clear fx_c7_o5_1
  go_wp2_with fail
  refine (toInt64S_c _ _ _ _ _ (by exact (P2.out.1)) (by omega)).mono ?_
  rintro e w10 ⟨rfl, q10, hb⟩
  have hb' : Below w9.heap.size w9 w10 := (by first | (with_reducible exact hb) | (with_reducible exact up1 hb) | (with_reducible exact up2 hb) | (with_reducible exact up3 hb) | (with_reducible exact up4 hb) | (with_reducible exact below_of_drew hb) | (with_reducible exact below_of_drew (up1 hb)))
  have z10 := hb'.size
  have c10_a0_0 : w10.cell? ⟨w.heap.size, 0, none⟩ = some (.int .i64 st0) := keepc hb' c9_a0_0
  clear c9_a0_0
  have c10_a0_1 : w10.cell? ⟨w.heap.size, 1, none⟩ = some (.slice A0 n0 c0) := keepc hb' c9_a0_1
  clear c9_a0_1
  have c10_o5_0 : w10.cell? ⟨w5.heap.size, 0, none⟩ = some (.int .i64 st0) := keepc hb' c9_o5_0
  clear c9_o5_0
  have c10_o5_1 : w10.cell? ⟨w5.heap.size, 1, none⟩ = some (.slice (some ⟨g4, 0, none⟩) n0 n0) := keepc hb' c9_o5_1
  clear c9_o5_1
  have rP0 := P0.out.below hb'; clear P0; have P0 := Lib.hid rP0; clear rP0
  have rP2 := P2.out.below hb'; clear P2; have P2 := Lib.hid rP2; clear rP2
  have rFo2 := Fo2.out.below hb'; clear Fo2; have Fo2 := Lib.hid rFo2; clear rFo2
  have rFo3 := Fo3.out.below hb'; clear Fo3; have Fo3 := Lib.hid rFo3; clear rFo3
  have rFo5 := Fo5.out.below hb'; clear Fo5; have Fo5 := Lib.hid rFo5; clear rFo5
  have rFo6 := Fo6.out.below hb'; clear Fo6; have Fo6 := Lib.hid rFo6; clear rFo6
  have rFo8 := Fo8.out.below hb'; clear Fo8; have Fo8 := Lib.hid rFo8; clear rFo8
  have rB := below_chain B.out (by omega) hb'; clear B; have B := Lib.hid rB; clear rB
  have Fo9 := Lib.hid q10; clear q10
  clear hb hb'
  go_wp2_with fail
  refine (eqInt64S_t _ _ _ _ _ _ _ _ (by exact (Fo6.out.rdI)) (by exact (Fo9.out.rdI)) (by omega)).mono ?_
  rintro e w11 ⟨rfl, hb⟩
  have hb' : Below w10.heap.size w10 w11 := (by first | (with_reducible exact hb) | (with_reducible exact up1 hb) | (with_reducible exact up2 hb) | (with_reducible exact up3 hb) | (with_reducible exact up4 hb) | (with_reducible exact below_of_drew hb) | (with_reducible exact below_of_drew (up1 hb)))
  have z11 := hb'.size
  have c11_a0_0 : w11.cell? ⟨w.heap.size, 0, none⟩ = some (.int .i64 st0) := keepc hb' c10_a0_0
  clear c10_a0_0
  have c11_a0_1 : w11.cell? ⟨w.heap.size, 1, none⟩ = some (.slice A0 n0 c0) := keepc hb' c10_a0_1
  clear c10_a0_1
  have c11_o5_0 : w11.cell? ⟨w5.heap.size, 0, none⟩ = some (.int .i64 st0) := keepc hb' c10_o5_0
  clear c10_o5_0
  have c11_o5_1 : w11.cell? ⟨w5.heap.size, 1, none⟩ = some (.slice (some ⟨g4, 0, none⟩) n0 n0) := keepc hb' c10_o5_1
  clear c10_o5_1
  have rP0 := P0.out.below hb'; clear P0; have P0 := Lib.hid rP0; clear rP0
  have rP2 := P2.out.below hb'; clear P2; have P2 := Lib.hid rP2; clear rP2
  have rFo2 := Fo2.out.below hb'; clear Fo2; have Fo2 := Lib.hid rFo2; clear rFo2
  have rFo3 := Fo3.out.below hb'; clear Fo3; have Fo3 := Lib.hid rFo3; clear rFo3
  have rFo5 := Fo5.out.below hb'; clear Fo5; have Fo5 := Lib.hid rFo5; clear rFo5
  have rFo6 := Fo6.out.below hb'; clear Fo6; have Fo6 := Lib.hid rFo6; clear rFo6
  have rFo8 := Fo8.out.below hb'; clear Fo8; have Fo8 := Lib.hid rFo8; clear rFo8
  have rFo9 := Fo9.out.below hb'; clear Fo9; have Fo9 := Lib.hid rFo9; clear rFo9
  have rB := below_chain B.out (by omega) hb'; clear B; have B := Lib.hid rB; clear rB
  clear hb hb'
  go_wp2
  go_ret
  exact ⟨rfl, B.out⟩
end Go.Proofs.Ytbpeagnldgefeaa
