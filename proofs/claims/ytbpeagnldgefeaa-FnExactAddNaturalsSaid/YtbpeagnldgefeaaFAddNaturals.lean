/-
  FnExactAddNaturals returns true for every input: its walk, out of the contracts.
-/
import Derived.Test.YtbpeagnldgefeaaLawI
import Derived.Test.YtbpeagnldgefeaaC02d
import Derived.Test.YtbpeagnldgefeaaOpen
namespace Go.Proofs.Ytbpeagnldgefeaa
open Go.RowKit

set_option maxHeartbeats 4000000 in
set_option maxRecDepth 100000 in
theorem walkAddNaturals (A0 : Option Addr) (n0 : Nat) (c0 : Nat) (xs0 : List Int) (A1 : Option Addr) (n1 : Nat) (c1 : Nat) (xs1 : List Int) (w : World) (h0 : RdI w A0 n0 xs0) (hb0 : n0 ≤ 9223372036854775807) (_oo0 : ∀ x ∈ xs0, i64ok x) (h1 : RdI w A1 n1 xs1) (hb1 : n1 ≤ 9223372036854775807) (_oo1 : ∀ x ∈ xs1, i64ok x) :
    Calls Try.prog 12 #[.slice A0 n0 c0, .slice A1 n1 c1] w fun e w' => e = .returned (.bool true) ∧ Below w.heap.size w w' := by
  have P0 := Lib.hid (RdU.mk' h0); clear h0
  have P1 := Lib.hid (RdU.mk' h1); clear h1
  by_cases hsa0 : 1048576 < n0
  · go_enter Try.func12, Try.ntmps12
    go_wp2
    go_ret
    exact ⟨rfl, below_size⟩
  by_cases hsa1 : 1048576 < n1
  · go_enter Try.func12, Try.ntmps12
    go_wp2
    go_ret
    exact ⟨rfl, below_size⟩
  go_enter Try.func12, Try.ntmps12
  go_wp2_with fail
  refine (toInt64S_c _ _ _ _ _ (by exact (P0.out.1)) (by omega)).mono ?_
  rintro e w1 ⟨rfl, q1, hb⟩
  have hb' : Below w.heap.size w w1 := (by first | (with_reducible exact hb) | (with_reducible exact up1 hb) | (with_reducible exact up2 hb) | (with_reducible exact up3 hb) | (with_reducible exact up4 hb) | (with_reducible exact below_of_drew hb) | (with_reducible exact below_of_drew (up1 hb)))
  have z1 := hb'.size
  have rP0 := P0.out.below hb'; clear P0; have P0 := Lib.hid rP0; clear rP0
  have rP1 := P1.out.below hb'; clear P1; have P1 := Lib.hid rP1; clear rP1
  have rB := hb'; have B := Lib.hid rB; clear rB
  have Fo1 := Lib.hid q1; clear q1
  clear hb hb'
  go_wp2_with fail
  refine (toInt64S_c _ _ _ _ _ (by exact (P1.out.1)) (by omega)).mono ?_
  rintro e w2 ⟨rfl, q2, hb⟩
  have hb' : Below w1.heap.size w1 w2 := (by first | (with_reducible exact hb) | (with_reducible exact up1 hb) | (with_reducible exact up2 hb) | (with_reducible exact up3 hb) | (with_reducible exact up4 hb) | (with_reducible exact below_of_drew hb) | (with_reducible exact below_of_drew (up1 hb)))
  have z2 := hb'.size
  have rP0 := P0.out.below hb'; clear P0; have P0 := Lib.hid rP0; clear rP0
  have rP1 := P1.out.below hb'; clear P1; have P1 := Lib.hid rP1; clear rP1
  have rFo1 := Fo1.out.below hb'; clear Fo1; have Fo1 := Lib.hid rFo1; clear rFo1
  have rB := below_chain B.out (by omega) hb'; clear B; have B := Lib.hid rB; clear rB
  have Fo2 := Lib.hid q2; clear q2
  clear hb hb'
  go_wp2_with fail
  refine (sAddNaturals_c _ _ _ _ _ _ _ _ _ (by exact (Fo1.out.rdI)) (by exact (Fo2.out.rdI)) (by omega) (by omega)).mono ?_
  rintro e w3 ⟨A3, n4, c5, rfl, q6, l7, hb⟩
  have hb' : Below w2.heap.size w2 w3 := (by first | (with_reducible exact hb) | (with_reducible exact up1 hb) | (with_reducible exact up2 hb) | (with_reducible exact up3 hb) | (with_reducible exact up4 hb) | (with_reducible exact below_of_drew hb) | (with_reducible exact below_of_drew (up1 hb)))
  have z3 := hb'.size
  have rP0 := P0.out.below hb'; clear P0; have P0 := Lib.hid rP0; clear rP0
  have rP1 := P1.out.below hb'; clear P1; have P1 := Lib.hid rP1; clear rP1
  have rFo1 := Fo1.out.below hb'; clear Fo1; have Fo1 := Lib.hid rFo1; clear rFo1
  have rFo2 := Fo2.out.below hb'; clear Fo2; have Fo2 := Lib.hid rFo2; clear rFo2
  have rB := below_chain B.out (by omega) hb'; clear B; have B := Lib.hid rB; clear rB
  have Fo8 := Lib.hid q6; clear q6
  clear hb hb'
  go_wp2_with fail
  refine (toInt64S_c _ _ _ _ _ (by exact (P0.out.1)) (by omega)).mono ?_
  rintro e w4 ⟨rfl, q4, hb⟩
  have hb' : Below w3.heap.size w3 w4 := (by first | (with_reducible exact hb) | (with_reducible exact up1 hb) | (with_reducible exact up2 hb) | (with_reducible exact up3 hb) | (with_reducible exact up4 hb) | (with_reducible exact below_of_drew hb) | (with_reducible exact below_of_drew (up1 hb)))
  have z4 := hb'.size
  have rP0 := P0.out.below hb'; clear P0; have P0 := Lib.hid rP0; clear rP0
  have rP1 := P1.out.below hb'; clear P1; have P1 := Lib.hid rP1; clear rP1
  have rFo1 := Fo1.out.below hb'; clear Fo1; have Fo1 := Lib.hid rFo1; clear rFo1
  have rFo2 := Fo2.out.below hb'; clear Fo2; have Fo2 := Lib.hid rFo2; clear rFo2
  have rFo8 := Fo8.out.below hb'; clear Fo8; have Fo8 := Lib.hid rFo8; clear rFo8
  have rB := below_chain B.out (by omega) hb'; clear B; have B := Lib.hid rB; clear rB
  have Fo9 := Lib.hid q4; clear q4
  clear hb hb'
  go_wp2_with fail
  refine (toInt64S_c _ _ _ _ _ (by exact (P1.out.1)) (by omega)).mono ?_
  rintro e w5 ⟨rfl, q5, hb⟩
  have hb' : Below w4.heap.size w4 w5 := (by first | (with_reducible exact hb) | (with_reducible exact up1 hb) | (with_reducible exact up2 hb) | (with_reducible exact up3 hb) | (with_reducible exact up4 hb) | (with_reducible exact below_of_drew hb) | (with_reducible exact below_of_drew (up1 hb)))
  have z5 := hb'.size
  have rP0 := P0.out.below hb'; clear P0; have P0 := Lib.hid rP0; clear rP0
  have rP1 := P1.out.below hb'; clear P1; have P1 := Lib.hid rP1; clear rP1
  have rFo1 := Fo1.out.below hb'; clear Fo1; have Fo1 := Lib.hid rFo1; clear rFo1
  have rFo2 := Fo2.out.below hb'; clear Fo2; have Fo2 := Lib.hid rFo2; clear rFo2
  have rFo8 := Fo8.out.below hb'; clear Fo8; have Fo8 := Lib.hid rFo8; clear rFo8
  have rFo9 := Fo9.out.below hb'; clear Fo9; have Fo9 := Lib.hid rFo9; clear rFo9
  have rB := below_chain B.out (by omega) hb'; clear B; have B := Lib.hid rB; clear rB
  have Fo10 := Lib.hid q5; clear q5
  clear hb hb'
  go_wp2_with fail
  refine (iAddNaturals_c _ _ _ _ _ _ _ _ _ (by exact (Fo9.out.rdI)) (by exact (Fo10.out.rdI)) (by omega) (by omega)).mono ?_
  rintro e w6 ⟨A11, n12, c13, rfl, q14, l15, hb⟩
  have hb' : Below w5.heap.size w5 w6 := (by first | (with_reducible exact hb) | (with_reducible exact up1 hb) | (with_reducible exact up2 hb) | (with_reducible exact up3 hb) | (with_reducible exact up4 hb) | (with_reducible exact below_of_drew hb) | (with_reducible exact below_of_drew (up1 hb)))
  have z6 := hb'.size
  have rP0 := P0.out.below hb'; clear P0; have P0 := Lib.hid rP0; clear rP0
  have rP1 := P1.out.below hb'; clear P1; have P1 := Lib.hid rP1; clear rP1
  have rFo1 := Fo1.out.below hb'; clear Fo1; have Fo1 := Lib.hid rFo1; clear rFo1
  have rFo2 := Fo2.out.below hb'; clear Fo2; have Fo2 := Lib.hid rFo2; clear rFo2
  have rFo8 := Fo8.out.below hb'; clear Fo8; have Fo8 := Lib.hid rFo8; clear rFo8
  have rFo9 := Fo9.out.below hb'; clear Fo9; have Fo9 := Lib.hid rFo9; clear rFo9
  have rFo10 := Fo10.out.below hb'; clear Fo10; have Fo10 := Lib.hid rFo10; clear rFo10
  have rB := below_chain B.out (by omega) hb'; clear B; have B := Lib.hid rB; clear rB
  have Fo16 := Lib.hid q14; clear q14
  clear hb hb'
  go_wp2_with fail
  refine (eqInt64S_t _ _ _ _ _ _ _ _ (by exact (Fo16.out.rdI)) (by exact (Fo8.out.rdI)) (by omega)).mono ?_
  rintro e w7 ⟨rfl, hb⟩
  have hb' : Below w6.heap.size w6 w7 := (by first | (with_reducible exact hb) | (with_reducible exact up1 hb) | (with_reducible exact up2 hb) | (with_reducible exact up3 hb) | (with_reducible exact up4 hb) | (with_reducible exact below_of_drew hb) | (with_reducible exact below_of_drew (up1 hb)))
  have z7 := hb'.size
  have rP0 := P0.out.below hb'; clear P0; have P0 := Lib.hid rP0; clear rP0
  have rP1 := P1.out.below hb'; clear P1; have P1 := Lib.hid rP1; clear rP1
  have rFo1 := Fo1.out.below hb'; clear Fo1; have Fo1 := Lib.hid rFo1; clear rFo1
  have rFo2 := Fo2.out.below hb'; clear Fo2; have Fo2 := Lib.hid rFo2; clear rFo2
  have rFo8 := Fo8.out.below hb'; clear Fo8; have Fo8 := Lib.hid rFo8; clear rFo8
  have rFo9 := Fo9.out.below hb'; clear Fo9; have Fo9 := Lib.hid rFo9; clear rFo9
  have rFo10 := Fo10.out.below hb'; clear Fo10; have Fo10 := Lib.hid rFo10; clear rFo10
  have rFo16 := Fo16.out.below hb'; clear Fo16; have Fo16 := Lib.hid rFo16; clear rFo16
  have rB := below_chain B.out (by omega) hb'; clear B; have B := Lib.hid rB; clear rB
  clear hb hb'
  go_wp2_with fail
  refine (toInt64S_c _ _ _ _ _ (by exact (P0.out.1)) (by omega)).mono ?_
  rintro e w8 ⟨rfl, q8, hb⟩
  have hb' : Below w7.heap.size w7 w8 := (by first | (with_reducible exact hb) | (with_reducible exact up1 hb) | (with_reducible exact up2 hb) | (with_reducible exact up3 hb) | (with_reducible exact up4 hb) | (with_reducible exact below_of_drew hb) | (with_reducible exact below_of_drew (up1 hb)))
  have z8 := hb'.size
  have rP0 := P0.out.below hb'; clear P0; have P0 := Lib.hid rP0; clear rP0
  have rP1 := P1.out.below hb'; clear P1; have P1 := Lib.hid rP1; clear rP1
  have rFo1 := Fo1.out.below hb'; clear Fo1; have Fo1 := Lib.hid rFo1; clear rFo1
  have rFo2 := Fo2.out.below hb'; clear Fo2; have Fo2 := Lib.hid rFo2; clear rFo2
  have rFo8 := Fo8.out.below hb'; clear Fo8; have Fo8 := Lib.hid rFo8; clear rFo8
  have rFo9 := Fo9.out.below hb'; clear Fo9; have Fo9 := Lib.hid rFo9; clear rFo9
  have rFo10 := Fo10.out.below hb'; clear Fo10; have Fo10 := Lib.hid rFo10; clear rFo10
  have rFo16 := Fo16.out.below hb'; clear Fo16; have Fo16 := Lib.hid rFo16; clear rFo16
  have rB := below_chain B.out (by omega) hb'; clear B; have B := Lib.hid rB; clear rB
  have Fo17 := Lib.hid q8; clear q8
  clear hb hb'
  go_wp2_with fail
  refine (eqInt64S_t _ _ _ _ _ _ _ _ (by exact (Fo9.out.rdI)) (by exact (Fo17.out.rdI)) (by omega)).mono ?_
  rintro e w9 ⟨rfl, hb⟩
  have hb' : Below w8.heap.size w8 w9 := (by first | (with_reducible exact hb) | (with_reducible exact up1 hb) | (with_reducible exact up2 hb) | (with_reducible exact up3 hb) | (with_reducible exact up4 hb) | (with_reducible exact below_of_drew hb) | (with_reducible exact below_of_drew (up1 hb)))
  have z9 := hb'.size
  have rP0 := P0.out.below hb'; clear P0; have P0 := Lib.hid rP0; clear rP0
  have rP1 := P1.out.below hb'; clear P1; have P1 := Lib.hid rP1; clear rP1
  have rFo1 := Fo1.out.below hb'; clear Fo1; have Fo1 := Lib.hid rFo1; clear rFo1
  have rFo2 := Fo2.out.below hb'; clear Fo2; have Fo2 := Lib.hid rFo2; clear rFo2
  have rFo8 := Fo8.out.below hb'; clear Fo8; have Fo8 := Lib.hid rFo8; clear rFo8
  have rFo9 := Fo9.out.below hb'; clear Fo9; have Fo9 := Lib.hid rFo9; clear rFo9
  have rFo10 := Fo10.out.below hb'; clear Fo10; have Fo10 := Lib.hid rFo10; clear rFo10
  have rFo16 := Fo16.out.below hb'; clear Fo16; have Fo16 := Lib.hid rFo16; clear rFo16
  have rFo17 := Fo17.out.below hb'; clear Fo17; have Fo17 := Lib.hid rFo17; clear rFo17
  have rB := below_chain B.out (by omega) hb'; clear B; have B := Lib.hid rB; clear rB
  clear hb hb'
  go_wp2_with fail
  refine (toInt64S_c _ _ _ _ _ (by exact (P1.out.1)) (by omega)).mono ?_
  rintro e w10 ⟨rfl, q10, hb⟩
  have hb' : Below w9.heap.size w9 w10 := (by first | (with_reducible exact hb) | (with_reducible exact up1 hb) | (with_reducible exact up2 hb) | (with_reducible exact up3 hb) | (with_reducible exact up4 hb) | (with_reducible exact below_of_drew hb) | (with_reducible exact below_of_drew (up1 hb)))
  have z10 := hb'.size
  have rP0 := P0.out.below hb'; clear P0; have P0 := Lib.hid rP0; clear rP0
  have rP1 := P1.out.below hb'; clear P1; have P1 := Lib.hid rP1; clear rP1
  have rFo1 := Fo1.out.below hb'; clear Fo1; have Fo1 := Lib.hid rFo1; clear rFo1
  have rFo2 := Fo2.out.below hb'; clear Fo2; have Fo2 := Lib.hid rFo2; clear rFo2
  have rFo8 := Fo8.out.below hb'; clear Fo8; have Fo8 := Lib.hid rFo8; clear rFo8
  have rFo9 := Fo9.out.below hb'; clear Fo9; have Fo9 := Lib.hid rFo9; clear rFo9
  have rFo10 := Fo10.out.below hb'; clear Fo10; have Fo10 := Lib.hid rFo10; clear rFo10
  have rFo16 := Fo16.out.below hb'; clear Fo16; have Fo16 := Lib.hid rFo16; clear rFo16
  have rFo17 := Fo17.out.below hb'; clear Fo17; have Fo17 := Lib.hid rFo17; clear rFo17
  have rB := below_chain B.out (by omega) hb'; clear B; have B := Lib.hid rB; clear rB
  have Fo18 := Lib.hid q10; clear q10
  clear hb hb'
  go_wp2_with fail
  refine (eqInt64S_t _ _ _ _ _ _ _ _ (by exact (Fo10.out.rdI)) (by exact (Fo18.out.rdI)) (by omega)).mono ?_
  rintro e w11 ⟨rfl, hb⟩
  have hb' : Below w10.heap.size w10 w11 := (by first | (with_reducible exact hb) | (with_reducible exact up1 hb) | (with_reducible exact up2 hb) | (with_reducible exact up3 hb) | (with_reducible exact up4 hb) | (with_reducible exact below_of_drew hb) | (with_reducible exact below_of_drew (up1 hb)))
  have z11 := hb'.size
  have rP0 := P0.out.below hb'; clear P0; have P0 := Lib.hid rP0; clear rP0
  have rP1 := P1.out.below hb'; clear P1; have P1 := Lib.hid rP1; clear rP1
  have rFo1 := Fo1.out.below hb'; clear Fo1; have Fo1 := Lib.hid rFo1; clear rFo1
  have rFo2 := Fo2.out.below hb'; clear Fo2; have Fo2 := Lib.hid rFo2; clear rFo2
  have rFo8 := Fo8.out.below hb'; clear Fo8; have Fo8 := Lib.hid rFo8; clear rFo8
  have rFo9 := Fo9.out.below hb'; clear Fo9; have Fo9 := Lib.hid rFo9; clear rFo9
  have rFo10 := Fo10.out.below hb'; clear Fo10; have Fo10 := Lib.hid rFo10; clear rFo10
  have rFo16 := Fo16.out.below hb'; clear Fo16; have Fo16 := Lib.hid rFo16; clear rFo16
  have rFo17 := Fo17.out.below hb'; clear Fo17; have Fo17 := Lib.hid rFo17; clear rFo17
  have rFo18 := Fo18.out.below hb'; clear Fo18; have Fo18 := Lib.hid rFo18; clear rFo18
  have rB := below_chain B.out (by omega) hb'; clear B; have B := Lib.hid rB; clear rB
  clear hb hb'
  go_wp2_with fail
  refine (markInt64S_c _ _ _ _ _ _ _ _ (by exact (Fo9.out)) (by omega) (by omega) (by omega)).mono ?_
  rintro e w12 ⟨rfl, q12, hk⟩
  have hk' : KeepR w3.heap.size w4.heap.size w11 w12 := (by first | (with_reducible exact hk) | (with_reducible exact hk.up1) | (with_reducible exact hk.up1.up1))
  have z12 := hk'.size
  have rP0 := P0.out.keep hk' (by omega); clear P0; have P0 := Lib.hid rP0; clear rP0
  have rP1 := P1.out.keep hk' (by omega); clear P1; have P1 := Lib.hid rP1; clear rP1
  have rFo1 := Fo1.out.keep hk' (by omega); clear Fo1; have Fo1 := Lib.hid rFo1; clear rFo1
  have rFo2 := Fo2.out.keep hk' (by omega); clear Fo2; have Fo2 := Lib.hid rFo2; clear rFo2
  have rFo8 := Fo8.out.keep hk' (by omega); clear Fo8; have Fo8 := Lib.hid rFo8; clear rFo8
  have rFo9 := q12; clear Fo9; have Fo9 := Lib.hid rFo9; clear rFo9 q12
  have rFo10 := Fo10.out.keep hk' (by omega); clear Fo10; have Fo10 := Lib.hid rFo10; clear rFo10
  have rFo16 := Fo16.out.keep hk' (by omega); clear Fo16; have Fo16 := Lib.hid rFo16; clear rFo16
  have rFo17 := Fo17.out.keep hk' (by omega); clear Fo17; have Fo17 := Lib.hid rFo17; clear rFo17
  have rFo18 := Fo18.out.keep hk' (by omega); clear Fo18; have Fo18 := Lib.hid rFo18; clear rFo18
  have rB := B.out.trans (hk'.below (B := w.heap.size) (by omega) (by omega)); clear B; have B := Lib.hid rB; clear rB
  clear hk hk'
  go_wp2_with fail
  refine (markInt64S_c _ _ _ _ _ _ _ _ (by exact (Fo10.out)) (by omega) (by omega) (by omega)).mono ?_
  rintro e w13 ⟨rfl, q13, hk⟩
  have hk' : KeepR w4.heap.size w5.heap.size w12 w13 := (by first | (with_reducible exact hk) | (with_reducible exact hk.up1) | (with_reducible exact hk.up1.up1))
  have z13 := hk'.size
  have rP0 := P0.out.keep hk' (by omega); clear P0; have P0 := Lib.hid rP0; clear rP0
  have rP1 := P1.out.keep hk' (by omega); clear P1; have P1 := Lib.hid rP1; clear rP1
  have rFo1 := Fo1.out.keep hk' (by omega); clear Fo1; have Fo1 := Lib.hid rFo1; clear rFo1
  have rFo2 := Fo2.out.keep hk' (by omega); clear Fo2; have Fo2 := Lib.hid rFo2; clear rFo2
  have rFo8 := Fo8.out.keep hk' (by omega); clear Fo8; have Fo8 := Lib.hid rFo8; clear rFo8
  have rFo9 := Fo9.out.keep hk' (by omega); clear Fo9; have Fo9 := Lib.hid rFo9; clear rFo9
  have rFo10 := q13; clear Fo10; have Fo10 := Lib.hid rFo10; clear rFo10 q13
  have rFo16 := Fo16.out.keep hk' (by omega); clear Fo16; have Fo16 := Lib.hid rFo16; clear rFo16
  have rFo17 := Fo17.out.keep hk' (by omega); clear Fo17; have Fo17 := Lib.hid rFo17; clear rFo17
  have rFo18 := Fo18.out.keep hk' (by omega); clear Fo18; have Fo18 := Lib.hid rFo18; clear rFo18
  have rB := B.out.trans (hk'.below (B := w.heap.size) (by omega) (by omega)); clear B; have B := Lib.hid rB; clear rB
  clear hk hk'
  go_wp2_with fail
  refine (eqInt64S_t _ _ _ _ _ _ _ _ (by exact (Fo16.out.rdI)) (by exact (Fo8.out.rdI)) (by omega)).mono ?_
  rintro e w14 ⟨rfl, hb⟩
  have hb' : Below w13.heap.size w13 w14 := (by first | (with_reducible exact hb) | (with_reducible exact up1 hb) | (with_reducible exact up2 hb) | (with_reducible exact up3 hb) | (with_reducible exact up4 hb) | (with_reducible exact below_of_drew hb) | (with_reducible exact below_of_drew (up1 hb)))
  have z14 := hb'.size
  have rP0 := P0.out.below hb'; clear P0; have P0 := Lib.hid rP0; clear rP0
  have rP1 := P1.out.below hb'; clear P1; have P1 := Lib.hid rP1; clear rP1
  have rFo1 := Fo1.out.below hb'; clear Fo1; have Fo1 := Lib.hid rFo1; clear rFo1
  have rFo2 := Fo2.out.below hb'; clear Fo2; have Fo2 := Lib.hid rFo2; clear rFo2
  have rFo8 := Fo8.out.below hb'; clear Fo8; have Fo8 := Lib.hid rFo8; clear rFo8
  have rFo9 := Fo9.out.below hb'; clear Fo9; have Fo9 := Lib.hid rFo9; clear rFo9
  have rFo10 := Fo10.out.below hb'; clear Fo10; have Fo10 := Lib.hid rFo10; clear rFo10
  have rFo16 := Fo16.out.below hb'; clear Fo16; have Fo16 := Lib.hid rFo16; clear rFo16
  have rFo17 := Fo17.out.below hb'; clear Fo17; have Fo17 := Lib.hid rFo17; clear rFo17
  have rFo18 := Fo18.out.below hb'; clear Fo18; have Fo18 := Lib.hid rFo18; clear rFo18
  have rB := below_chain B.out (by omega) hb'; clear B; have B := Lib.hid rB; clear rB
  clear hb hb'
  go_wp2_with fail
  refine (markInt64S_c _ _ _ _ _ _ _ _ (by exact (Fo16.out)) (by omega) (by omega) (by omega)).mono ?_
  rintro e w15 ⟨rfl, q15, hk⟩
  have hk' : KeepR w5.heap.size w6.heap.size w14 w15 := (by first | (with_reducible exact hk) | (with_reducible exact hk.up1) | (with_reducible exact hk.up1.up1))
  have z15 := hk'.size
  have rP0 := P0.out.keep hk' (by omega); clear P0; have P0 := Lib.hid rP0; clear rP0
  have rP1 := P1.out.keep hk' (by omega); clear P1; have P1 := Lib.hid rP1; clear rP1
  have rFo1 := Fo1.out.keep hk' (by omega); clear Fo1; have Fo1 := Lib.hid rFo1; clear rFo1
  have rFo2 := Fo2.out.keep hk' (by omega); clear Fo2; have Fo2 := Lib.hid rFo2; clear rFo2
  have rFo8 := Fo8.out.keep hk' (by omega); clear Fo8; have Fo8 := Lib.hid rFo8; clear rFo8
  have rFo9 := Fo9.out.keep hk' (by omega); clear Fo9; have Fo9 := Lib.hid rFo9; clear rFo9
  have rFo10 := Fo10.out.keep hk' (by omega); clear Fo10; have Fo10 := Lib.hid rFo10; clear rFo10
  have rFo16 := q15; clear Fo16; have Fo16 := Lib.hid rFo16; clear rFo16 q15
  have rFo17 := Fo17.out.keep hk' (by omega); clear Fo17; have Fo17 := Lib.hid rFo17; clear rFo17
  have rFo18 := Fo18.out.keep hk' (by omega); clear Fo18; have Fo18 := Lib.hid rFo18; clear rFo18
  have rB := B.out.trans (hk'.below (B := w.heap.size) (by omega) (by omega)); clear B; have B := Lib.hid rB; clear rB
  clear hk hk'
  go_wp2_with fail
  refine (heldInt64S_c _ _ _ _ _ (by exact (Fo16.out.rdI)) (by omega) (by omega) (by omega)).mono ?_
  rintro e w16 ⟨rfl, hb⟩
  have hb' : Below w15.heap.size w15 w16 := (by first | (with_reducible exact hb) | (with_reducible exact up1 hb) | (with_reducible exact up2 hb) | (with_reducible exact up3 hb) | (with_reducible exact up4 hb) | (with_reducible exact below_of_drew hb) | (with_reducible exact below_of_drew (up1 hb)))
  have z16 := hb'.size
  have rP0 := P0.out.below hb'; clear P0; have P0 := Lib.hid rP0; clear rP0
  have rP1 := P1.out.below hb'; clear P1; have P1 := Lib.hid rP1; clear rP1
  have rFo1 := Fo1.out.below hb'; clear Fo1; have Fo1 := Lib.hid rFo1; clear rFo1
  have rFo2 := Fo2.out.below hb'; clear Fo2; have Fo2 := Lib.hid rFo2; clear rFo2
  have rFo8 := Fo8.out.below hb'; clear Fo8; have Fo8 := Lib.hid rFo8; clear rFo8
  have rFo9 := Fo9.out.below hb'; clear Fo9; have Fo9 := Lib.hid rFo9; clear rFo9
  have rFo10 := Fo10.out.below hb'; clear Fo10; have Fo10 := Lib.hid rFo10; clear rFo10
  have rFo16 := Fo16.out.below hb'; clear Fo16; have Fo16 := Lib.hid rFo16; clear rFo16
  have rFo17 := Fo17.out.below hb'; clear Fo17; have Fo17 := Lib.hid rFo17; clear rFo17
  have rFo18 := Fo18.out.below hb'; clear Fo18; have Fo18 := Lib.hid rFo18; clear rFo18
  have rB := below_chain B.out (by omega) hb'; clear B; have B := Lib.hid rB; clear rB
  clear hb hb'
  go_wp2_with fail
  refine (toInt64S_c _ _ _ _ _ (by exact (P0.out.1)) (by omega)).mono ?_
  rintro e w17 ⟨rfl, q17, hb⟩
  have hb' : Below w16.heap.size w16 w17 := (by first | (with_reducible exact hb) | (with_reducible exact up1 hb) | (with_reducible exact up2 hb) | (with_reducible exact up3 hb) | (with_reducible exact up4 hb) | (with_reducible exact below_of_drew hb) | (with_reducible exact below_of_drew (up1 hb)))
  have z17 := hb'.size
  have rP0 := P0.out.below hb'; clear P0; have P0 := Lib.hid rP0; clear rP0
  have rP1 := P1.out.below hb'; clear P1; have P1 := Lib.hid rP1; clear rP1
  have rFo1 := Fo1.out.below hb'; clear Fo1; have Fo1 := Lib.hid rFo1; clear rFo1
  have rFo2 := Fo2.out.below hb'; clear Fo2; have Fo2 := Lib.hid rFo2; clear rFo2
  have rFo8 := Fo8.out.below hb'; clear Fo8; have Fo8 := Lib.hid rFo8; clear rFo8
  have rFo9 := Fo9.out.below hb'; clear Fo9; have Fo9 := Lib.hid rFo9; clear rFo9
  have rFo10 := Fo10.out.below hb'; clear Fo10; have Fo10 := Lib.hid rFo10; clear rFo10
  have rFo16 := Fo16.out.below hb'; clear Fo16; have Fo16 := Lib.hid rFo16; clear rFo16
  have rFo17 := Fo17.out.below hb'; clear Fo17; have Fo17 := Lib.hid rFo17; clear rFo17
  have rFo18 := Fo18.out.below hb'; clear Fo18; have Fo18 := Lib.hid rFo18; clear rFo18
  have rB := below_chain B.out (by omega) hb'; clear B; have B := Lib.hid rB; clear rB
  have Fo19 := Lib.hid q17; clear q17
  clear hb hb'
  go_wp2_with fail
  refine (toInt64S_c _ _ _ _ _ (by exact (P1.out.1)) (by omega)).mono ?_
  rintro e w18 ⟨rfl, q18, hb⟩
  have hb' : Below w17.heap.size w17 w18 := (by first | (with_reducible exact hb) | (with_reducible exact up1 hb) | (with_reducible exact up2 hb) | (with_reducible exact up3 hb) | (with_reducible exact up4 hb) | (with_reducible exact below_of_drew hb) | (with_reducible exact below_of_drew (up1 hb)))
  have z18 := hb'.size
  have rP0 := P0.out.below hb'; clear P0; have P0 := Lib.hid rP0; clear rP0
  have rP1 := P1.out.below hb'; clear P1; have P1 := Lib.hid rP1; clear rP1
  have rFo1 := Fo1.out.below hb'; clear Fo1; have Fo1 := Lib.hid rFo1; clear rFo1
  have rFo2 := Fo2.out.below hb'; clear Fo2; have Fo2 := Lib.hid rFo2; clear rFo2
  have rFo8 := Fo8.out.below hb'; clear Fo8; have Fo8 := Lib.hid rFo8; clear rFo8
  have rFo9 := Fo9.out.below hb'; clear Fo9; have Fo9 := Lib.hid rFo9; clear rFo9
  have rFo10 := Fo10.out.below hb'; clear Fo10; have Fo10 := Lib.hid rFo10; clear rFo10
  have rFo16 := Fo16.out.below hb'; clear Fo16; have Fo16 := Lib.hid rFo16; clear rFo16
  have rFo17 := Fo17.out.below hb'; clear Fo17; have Fo17 := Lib.hid rFo17; clear rFo17
  have rFo18 := Fo18.out.below hb'; clear Fo18; have Fo18 := Lib.hid rFo18; clear rFo18
  have rFo19 := Fo19.out.below hb'; clear Fo19; have Fo19 := Lib.hid rFo19; clear rFo19
  have rB := below_chain B.out (by omega) hb'; clear B; have B := Lib.hid rB; clear rB
  have Fo20 := Lib.hid q18; clear q18
  clear hb hb'
  go_wp2_with fail
  refine (iAddNaturals_c _ _ _ _ _ _ _ _ _ (by exact (Fo19.out.rdI)) (by exact (Fo20.out.rdI)) (by omega) (by omega)).mono ?_
  rintro e w19 ⟨A21, n22, c23, rfl, q24, l25, hb⟩
  have hb' : Below w18.heap.size w18 w19 := (by first | (with_reducible exact hb) | (with_reducible exact up1 hb) | (with_reducible exact up2 hb) | (with_reducible exact up3 hb) | (with_reducible exact up4 hb) | (with_reducible exact below_of_drew hb) | (with_reducible exact below_of_drew (up1 hb)))
  have z19 := hb'.size
  have rP0 := P0.out.below hb'; clear P0; have P0 := Lib.hid rP0; clear rP0
  have rP1 := P1.out.below hb'; clear P1; have P1 := Lib.hid rP1; clear rP1
  have rFo1 := Fo1.out.below hb'; clear Fo1; have Fo1 := Lib.hid rFo1; clear rFo1
  have rFo2 := Fo2.out.below hb'; clear Fo2; have Fo2 := Lib.hid rFo2; clear rFo2
  have rFo8 := Fo8.out.below hb'; clear Fo8; have Fo8 := Lib.hid rFo8; clear rFo8
  have rFo9 := Fo9.out.below hb'; clear Fo9; have Fo9 := Lib.hid rFo9; clear rFo9
  have rFo10 := Fo10.out.below hb'; clear Fo10; have Fo10 := Lib.hid rFo10; clear rFo10
  have rFo16 := Fo16.out.below hb'; clear Fo16; have Fo16 := Lib.hid rFo16; clear rFo16
  have rFo17 := Fo17.out.below hb'; clear Fo17; have Fo17 := Lib.hid rFo17; clear rFo17
  have rFo18 := Fo18.out.below hb'; clear Fo18; have Fo18 := Lib.hid rFo18; clear rFo18
  have rFo19 := Fo19.out.below hb'; clear Fo19; have Fo19 := Lib.hid rFo19; clear rFo19
  have rFo20 := Fo20.out.below hb'; clear Fo20; have Fo20 := Lib.hid rFo20; clear rFo20
  have rB := below_chain B.out (by omega) hb'; clear B; have B := Lib.hid rB; clear rB
  have Fo26 := Lib.hid q24; clear q24
  clear hb hb'
  go_wp2_with fail
  refine (eqInt64S_t _ _ _ _ _ _ _ _ (by exact (Fo26.out.rdI)) (by exact (Fo8.out.rdI)) (by omega)).mono ?_
  rintro e w20 ⟨rfl, hb⟩
  have hb' : Below w19.heap.size w19 w20 := (by first | (with_reducible exact hb) | (with_reducible exact up1 hb) | (with_reducible exact up2 hb) | (with_reducible exact up3 hb) | (with_reducible exact up4 hb) | (with_reducible exact below_of_drew hb) | (with_reducible exact below_of_drew (up1 hb)))
  have z20 := hb'.size
  have rP0 := P0.out.below hb'; clear P0; have P0 := Lib.hid rP0; clear rP0
  have rP1 := P1.out.below hb'; clear P1; have P1 := Lib.hid rP1; clear rP1
  have rFo1 := Fo1.out.below hb'; clear Fo1; have Fo1 := Lib.hid rFo1; clear rFo1
  have rFo2 := Fo2.out.below hb'; clear Fo2; have Fo2 := Lib.hid rFo2; clear rFo2
  have rFo8 := Fo8.out.below hb'; clear Fo8; have Fo8 := Lib.hid rFo8; clear rFo8
  have rFo9 := Fo9.out.below hb'; clear Fo9; have Fo9 := Lib.hid rFo9; clear rFo9
  have rFo10 := Fo10.out.below hb'; clear Fo10; have Fo10 := Lib.hid rFo10; clear rFo10
  have rFo16 := Fo16.out.below hb'; clear Fo16; have Fo16 := Lib.hid rFo16; clear rFo16
  have rFo17 := Fo17.out.below hb'; clear Fo17; have Fo17 := Lib.hid rFo17; clear rFo17
  have rFo18 := Fo18.out.below hb'; clear Fo18; have Fo18 := Lib.hid rFo18; clear rFo18
  have rFo19 := Fo19.out.below hb'; clear Fo19; have Fo19 := Lib.hid rFo19; clear rFo19
  have rFo20 := Fo20.out.below hb'; clear Fo20; have Fo20 := Lib.hid rFo20; clear rFo20
  have rFo26 := Fo26.out.below hb'; clear Fo26; have Fo26 := Lib.hid rFo26; clear rFo26
  have rB := below_chain B.out (by omega) hb'; clear B; have B := Lib.hid rB; clear rB
  clear hb hb'
  go_wp2_with fail
  refine (heldInt64S_c _ _ _ _ _ (by exact (Fo16.out.rdI)) (by omega) (by omega) (by omega)).mono ?_
  rintro e w21 ⟨rfl, hb⟩
  have hb' : Below w20.heap.size w20 w21 := (by first | (with_reducible exact hb) | (with_reducible exact up1 hb) | (with_reducible exact up2 hb) | (with_reducible exact up3 hb) | (with_reducible exact up4 hb) | (with_reducible exact below_of_drew hb) | (with_reducible exact below_of_drew (up1 hb)))
  have z21 := hb'.size
  have rP0 := P0.out.below hb'; clear P0; have P0 := Lib.hid rP0; clear rP0
  have rP1 := P1.out.below hb'; clear P1; have P1 := Lib.hid rP1; clear rP1
  have rFo1 := Fo1.out.below hb'; clear Fo1; have Fo1 := Lib.hid rFo1; clear rFo1
  have rFo2 := Fo2.out.below hb'; clear Fo2; have Fo2 := Lib.hid rFo2; clear rFo2
  have rFo8 := Fo8.out.below hb'; clear Fo8; have Fo8 := Lib.hid rFo8; clear rFo8
  have rFo9 := Fo9.out.below hb'; clear Fo9; have Fo9 := Lib.hid rFo9; clear rFo9
  have rFo10 := Fo10.out.below hb'; clear Fo10; have Fo10 := Lib.hid rFo10; clear rFo10
  have rFo16 := Fo16.out.below hb'; clear Fo16; have Fo16 := Lib.hid rFo16; clear rFo16
  have rFo17 := Fo17.out.below hb'; clear Fo17; have Fo17 := Lib.hid rFo17; clear rFo17
  have rFo18 := Fo18.out.below hb'; clear Fo18; have Fo18 := Lib.hid rFo18; clear rFo18
  have rFo19 := Fo19.out.below hb'; clear Fo19; have Fo19 := Lib.hid rFo19; clear rFo19
  have rFo20 := Fo20.out.below hb'; clear Fo20; have Fo20 := Lib.hid rFo20; clear rFo20
  have rFo26 := Fo26.out.below hb'; clear Fo26; have Fo26 := Lib.hid rFo26; clear rFo26
  have rB := below_chain B.out (by omega) hb'; clear B; have B := Lib.hid rB; clear rB
  clear hb hb'
  go_wp2
  go_ret
  exact ⟨rfl, B.out⟩
end Go.Proofs.Ytbpeagnldgefeaa
