/-
  FnExactSignedOf returns true for every input: its walk, out of the contracts.
-/
import Derived.Test.YtbpeagnldgefeaaLawI
import Derived.Test.YtbpeagnldgefeaaC02e
import Derived.Test.YtbpeagnldgefeaaOpen
namespace Go.Proofs.Ytbpeagnldgefeaa
open Go.RowKit

set_option maxHeartbeats 4000000 in
set_option maxRecDepth 100000 in
theorem walkSignedOf (A0 : Option Addr) (n0 : Nat) (c0 : Nat) (xs0 : List Int) (w : World) (h0 : RdI w A0 n0 xs0) (hb0 : n0 ≤ 9223372036854775807) (_oo0 : ∀ x ∈ xs0, i64ok x) :
    Calls Try.prog 14 #[.slice A0 n0 c0] w fun e w' => e = .returned (.bool true) ∧ Below w.heap.size w w' := by
  have P0 := Lib.hid (RdU.mk' h0); clear h0
  by_cases hsa0 : 1048576 < n0
  · go_enter Try.func14, Try.ntmps14
    go_wp2
    go_ret
    exact ⟨rfl, below_size⟩
  go_enter Try.func14, Try.ntmps14
  go_wp2_with fail
  refine (toInt64S_c _ _ _ _ _ (by exact (P0.out.1)) (by omega)).mono ?_
  rintro e w1 ⟨rfl, q1, hb⟩
  have hb' : Below w.heap.size w w1 := (by first | (with_reducible exact hb) | (with_reducible exact up1 hb) | (with_reducible exact up2 hb) | (with_reducible exact up3 hb) | (with_reducible exact up4 hb) | (with_reducible exact below_of_drew hb) | (with_reducible exact below_of_drew (up1 hb)))
  have z1 := hb'.size
  have rP0 := P0.out.below hb'; clear P0; have P0 := Lib.hid rP0; clear rP0
  have rB := hb'; have B := Lib.hid rB; clear rB
  have Fo1 := Lib.hid q1; clear q1
  clear hb hb'
  go_wp2_with fail
  refine (sSignedOf_c _ _ _ _ _ (by exact (Fo1.out.rdI)) (by omega)).mono ?_
  rintro e w2 ⟨A2, n3, c4, rfl, q5, l6, hb⟩
  have hb' : Below w1.heap.size w1 w2 := (by first | (with_reducible exact hb) | (with_reducible exact up1 hb) | (with_reducible exact up2 hb) | (with_reducible exact up3 hb) | (with_reducible exact up4 hb) | (with_reducible exact below_of_drew hb) | (with_reducible exact below_of_drew (up1 hb)))
  have z2 := hb'.size
  have rP0 := P0.out.below hb'; clear P0; have P0 := Lib.hid rP0; clear rP0
  have rFo1 := Fo1.out.below hb'; clear Fo1; have Fo1 := Lib.hid rFo1; clear rFo1
  have rB := below_chain B.out (by omega) hb'; clear B; have B := Lib.hid rB; clear rB
  have Fo7 := Lib.hid q5; clear q5
  clear hb hb'
  go_wp2_with fail
  refine (toInt64S_c _ _ _ _ _ (by exact (P0.out.1)) (by omega)).mono ?_
  rintro e w3 ⟨rfl, q3, hb⟩
  have hb' : Below w2.heap.size w2 w3 := (by first | (with_reducible exact hb) | (with_reducible exact up1 hb) | (with_reducible exact up2 hb) | (with_reducible exact up3 hb) | (with_reducible exact up4 hb) | (with_reducible exact below_of_drew hb) | (with_reducible exact below_of_drew (up1 hb)))
  have z3 := hb'.size
  have rP0 := P0.out.below hb'; clear P0; have P0 := Lib.hid rP0; clear rP0
  have rFo1 := Fo1.out.below hb'; clear Fo1; have Fo1 := Lib.hid rFo1; clear rFo1
  have rFo7 := Fo7.out.below hb'; clear Fo7; have Fo7 := Lib.hid rFo7; clear rFo7
  have rB := below_chain B.out (by omega) hb'; clear B; have B := Lib.hid rB; clear rB
  have Fo8 := Lib.hid q3; clear q3
  clear hb hb'
  go_wp2_with fail
  refine (iSignedOf_c _ _ _ _ _ (by exact (Fo8.out.rdI)) (by omega)).mono ?_
  rintro e w4 ⟨A9, n10, c11, rfl, q12, l13, hb⟩
  have hb' : Below w3.heap.size w3 w4 := (by first | (with_reducible exact hb) | (with_reducible exact up1 hb) | (with_reducible exact up2 hb) | (with_reducible exact up3 hb) | (with_reducible exact up4 hb) | (with_reducible exact below_of_drew hb) | (with_reducible exact below_of_drew (up1 hb)))
  have z4 := hb'.size
  have rP0 := P0.out.below hb'; clear P0; have P0 := Lib.hid rP0; clear rP0
  have rFo1 := Fo1.out.below hb'; clear Fo1; have Fo1 := Lib.hid rFo1; clear rFo1
  have rFo7 := Fo7.out.below hb'; clear Fo7; have Fo7 := Lib.hid rFo7; clear rFo7
  have rFo8 := Fo8.out.below hb'; clear Fo8; have Fo8 := Lib.hid rFo8; clear rFo8
  have rB := below_chain B.out (by omega) hb'; clear B; have B := Lib.hid rB; clear rB
  have Fo14 := Lib.hid q12; clear q12
  clear hb hb'
  go_wp2_with fail
  refine (eqInt64S_t _ _ _ _ _ _ _ _ (by exact (Fo14.out.rdI)) (by exact (Fo7.out.rdI)) (by omega)).mono ?_
  rintro e w5 ⟨rfl, hb⟩
  have hb' : Below w4.heap.size w4 w5 := (by first | (with_reducible exact hb) | (with_reducible exact up1 hb) | (with_reducible exact up2 hb) | (with_reducible exact up3 hb) | (with_reducible exact up4 hb) | (with_reducible exact below_of_drew hb) | (with_reducible exact below_of_drew (up1 hb)))
  have z5 := hb'.size
  have rP0 := P0.out.below hb'; clear P0; have P0 := Lib.hid rP0; clear rP0
  have rFo1 := Fo1.out.below hb'; clear Fo1; have Fo1 := Lib.hid rFo1; clear rFo1
  have rFo7 := Fo7.out.below hb'; clear Fo7; have Fo7 := Lib.hid rFo7; clear rFo7
  have rFo8 := Fo8.out.below hb'; clear Fo8; have Fo8 := Lib.hid rFo8; clear rFo8
  have rFo14 := Fo14.out.below hb'; clear Fo14; have Fo14 := Lib.hid rFo14; clear rFo14
  have rB := below_chain B.out (by omega) hb'; clear B; have B := Lib.hid rB; clear rB
  clear hb hb'
  go_wp2_with fail
  refine (toInt64S_c _ _ _ _ _ (by exact (P0.out.1)) (by omega)).mono ?_
  rintro e w6 ⟨rfl, q6, hb⟩
  have hb' : Below w5.heap.size w5 w6 := (by first | (with_reducible exact hb) | (with_reducible exact up1 hb) | (with_reducible exact up2 hb) | (with_reducible exact up3 hb) | (with_reducible exact up4 hb) | (with_reducible exact below_of_drew hb) | (with_reducible exact below_of_drew (up1 hb)))
  have z6 := hb'.size
  have rP0 := P0.out.below hb'; clear P0; have P0 := Lib.hid rP0; clear rP0
  have rFo1 := Fo1.out.below hb'; clear Fo1; have Fo1 := Lib.hid rFo1; clear rFo1
  have rFo7 := Fo7.out.below hb'; clear Fo7; have Fo7 := Lib.hid rFo7; clear rFo7
  have rFo8 := Fo8.out.below hb'; clear Fo8; have Fo8 := Lib.hid rFo8; clear rFo8
  have rFo14 := Fo14.out.below hb'; clear Fo14; have Fo14 := Lib.hid rFo14; clear rFo14
  have rB := below_chain B.out (by omega) hb'; clear B; have B := Lib.hid rB; clear rB
  have Fo15 := Lib.hid q6; clear q6
  clear hb hb'
  go_wp2_with fail
  refine (eqInt64S_t _ _ _ _ _ _ _ _ (by exact (Fo8.out.rdI)) (by exact (Fo15.out.rdI)) (by omega)).mono ?_
  rintro e w7 ⟨rfl, hb⟩
  have hb' : Below w6.heap.size w6 w7 := (by first | (with_reducible exact hb) | (with_reducible exact up1 hb) | (with_reducible exact up2 hb) | (with_reducible exact up3 hb) | (with_reducible exact up4 hb) | (with_reducible exact below_of_drew hb) | (with_reducible exact below_of_drew (up1 hb)))
  have z7 := hb'.size
  have rP0 := P0.out.below hb'; clear P0; have P0 := Lib.hid rP0; clear rP0
  have rFo1 := Fo1.out.below hb'; clear Fo1; have Fo1 := Lib.hid rFo1; clear rFo1
  have rFo7 := Fo7.out.below hb'; clear Fo7; have Fo7 := Lib.hid rFo7; clear rFo7
  have rFo8 := Fo8.out.below hb'; clear Fo8; have Fo8 := Lib.hid rFo8; clear rFo8
  have rFo14 := Fo14.out.below hb'; clear Fo14; have Fo14 := Lib.hid rFo14; clear rFo14
  have rFo15 := Fo15.out.below hb'; clear Fo15; have Fo15 := Lib.hid rFo15; clear rFo15
  have rB := below_chain B.out (by omega) hb'; clear B; have B := Lib.hid rB; clear rB
  clear hb hb'
  go_wp2_with fail
  refine (markInt64S_c _ _ _ _ _ _ _ _ (by exact (Fo8.out)) (by omega) (by omega) (by omega)).mono ?_
  rintro e w8 ⟨rfl, q8, hk⟩
  have hk' : KeepR w2.heap.size w3.heap.size w7 w8 := (by first | (with_reducible exact hk) | (with_reducible exact hk.up1) | (with_reducible exact hk.up1.up1))
  have z8 := hk'.size
  have rP0 := P0.out.keep hk' (by omega); clear P0; have P0 := Lib.hid rP0; clear rP0
  have rFo1 := Fo1.out.keep hk' (by omega); clear Fo1; have Fo1 := Lib.hid rFo1; clear rFo1
  have rFo7 := Fo7.out.keep hk' (by omega); clear Fo7; have Fo7 := Lib.hid rFo7; clear rFo7
  have rFo8 := q8; clear Fo8; have Fo8 := Lib.hid rFo8; clear rFo8 q8
  have rFo14 := Fo14.out.keep hk' (by omega); clear Fo14; have Fo14 := Lib.hid rFo14; clear rFo14
  have rFo15 := Fo15.out.keep hk' (by omega); clear Fo15; have Fo15 := Lib.hid rFo15; clear rFo15
  have rB := B.out.trans (hk'.below (B := w.heap.size) (by omega) (by omega)); clear B; have B := Lib.hid rB; clear rB
  clear hk hk'
  go_wp2_with fail
  refine (eqInt64S_t _ _ _ _ _ _ _ _ (by exact (Fo14.out.rdI)) (by exact (Fo7.out.rdI)) (by omega)).mono ?_
  rintro e w9 ⟨rfl, hb⟩
  have hb' : Below w8.heap.size w8 w9 := (by first | (with_reducible exact hb) | (with_reducible exact up1 hb) | (with_reducible exact up2 hb) | (with_reducible exact up3 hb) | (with_reducible exact up4 hb) | (with_reducible exact below_of_drew hb) | (with_reducible exact below_of_drew (up1 hb)))
  have z9 := hb'.size
  have rP0 := P0.out.below hb'; clear P0; have P0 := Lib.hid rP0; clear rP0
  have rFo1 := Fo1.out.below hb'; clear Fo1; have Fo1 := Lib.hid rFo1; clear rFo1
  have rFo7 := Fo7.out.below hb'; clear Fo7; have Fo7 := Lib.hid rFo7; clear rFo7
  have rFo8 := Fo8.out.below hb'; clear Fo8; have Fo8 := Lib.hid rFo8; clear rFo8
  have rFo14 := Fo14.out.below hb'; clear Fo14; have Fo14 := Lib.hid rFo14; clear rFo14
  have rFo15 := Fo15.out.below hb'; clear Fo15; have Fo15 := Lib.hid rFo15; clear rFo15
  have rB := below_chain B.out (by omega) hb'; clear B; have B := Lib.hid rB; clear rB
  clear hb hb'
  go_wp2_with fail
  refine (markInt64S_c _ _ _ _ _ _ _ _ (by exact (Fo14.out)) (by omega) (by omega) (by omega)).mono ?_
  rintro e w10 ⟨rfl, q10, hk⟩
  have hk' : KeepR w3.heap.size w4.heap.size w9 w10 := (by first | (with_reducible exact hk) | (with_reducible exact hk.up1) | (with_reducible exact hk.up1.up1))
  have z10 := hk'.size
  have rP0 := P0.out.keep hk' (by omega); clear P0; have P0 := Lib.hid rP0; clear rP0
  have rFo1 := Fo1.out.keep hk' (by omega); clear Fo1; have Fo1 := Lib.hid rFo1; clear rFo1
  have rFo7 := Fo7.out.keep hk' (by omega); clear Fo7; have Fo7 := Lib.hid rFo7; clear rFo7
  have rFo8 := Fo8.out.keep hk' (by omega); clear Fo8; have Fo8 := Lib.hid rFo8; clear rFo8
  have rFo14 := q10; clear Fo14; have Fo14 := Lib.hid rFo14; clear rFo14 q10
  have rFo15 := Fo15.out.keep hk' (by omega); clear Fo15; have Fo15 := Lib.hid rFo15; clear rFo15
  have rB := B.out.trans (hk'.below (B := w.heap.size) (by omega) (by omega)); clear B; have B := Lib.hid rB; clear rB
  clear hk hk'
  go_wp2_with fail
  refine (heldInt64S_c _ _ _ _ _ (by exact (Fo14.out.rdI)) (by omega) (by omega) (by omega)).mono ?_
  rintro e w11 ⟨rfl, hb⟩
  have hb' : Below w10.heap.size w10 w11 := (by first | (with_reducible exact hb) | (with_reducible exact up1 hb) | (with_reducible exact up2 hb) | (with_reducible exact up3 hb) | (with_reducible exact up4 hb) | (with_reducible exact below_of_drew hb) | (with_reducible exact below_of_drew (up1 hb)))
  have z11 := hb'.size
  have rP0 := P0.out.below hb'; clear P0; have P0 := Lib.hid rP0; clear rP0
  have rFo1 := Fo1.out.below hb'; clear Fo1; have Fo1 := Lib.hid rFo1; clear rFo1
  have rFo7 := Fo7.out.below hb'; clear Fo7; have Fo7 := Lib.hid rFo7; clear rFo7
  have rFo8 := Fo8.out.below hb'; clear Fo8; have Fo8 := Lib.hid rFo8; clear rFo8
  have rFo14 := Fo14.out.below hb'; clear Fo14; have Fo14 := Lib.hid rFo14; clear rFo14
  have rFo15 := Fo15.out.below hb'; clear Fo15; have Fo15 := Lib.hid rFo15; clear rFo15
  have rB := below_chain B.out (by omega) hb'; clear B; have B := Lib.hid rB; clear rB
  clear hb hb'
  go_wp2_with fail
  refine (toInt64S_c _ _ _ _ _ (by exact (P0.out.1)) (by omega)).mono ?_
  rintro e w12 ⟨rfl, q12, hb⟩
  have hb' : Below w11.heap.size w11 w12 := (by first | (with_reducible exact hb) | (with_reducible exact up1 hb) | (with_reducible exact up2 hb) | (with_reducible exact up3 hb) | (with_reducible exact up4 hb) | (with_reducible exact below_of_drew hb) | (with_reducible exact below_of_drew (up1 hb)))
  have z12 := hb'.size
  have rP0 := P0.out.below hb'; clear P0; have P0 := Lib.hid rP0; clear rP0
  have rFo1 := Fo1.out.below hb'; clear Fo1; have Fo1 := Lib.hid rFo1; clear rFo1
  have rFo7 := Fo7.out.below hb'; clear Fo7; have Fo7 := Lib.hid rFo7; clear rFo7
  have rFo8 := Fo8.out.below hb'; clear Fo8; have Fo8 := Lib.hid rFo8; clear rFo8
  have rFo14 := Fo14.out.below hb'; clear Fo14; have Fo14 := Lib.hid rFo14; clear rFo14
  have rFo15 := Fo15.out.below hb'; clear Fo15; have Fo15 := Lib.hid rFo15; clear rFo15
  have rB := below_chain B.out (by omega) hb'; clear B; have B := Lib.hid rB; clear rB
  have Fo16 := Lib.hid q12; clear q12
  clear hb hb'
  go_wp2_with fail
  refine (iSignedOf_c _ _ _ _ _ (by exact (Fo16.out.rdI)) (by omega)).mono ?_
  rintro e w13 ⟨A17, n18, c19, rfl, q20, l21, hb⟩
  have hb' : Below w12.heap.size w12 w13 := (by first | (with_reducible exact hb) | (with_reducible exact up1 hb) | (with_reducible exact up2 hb) | (with_reducible exact up3 hb) | (with_reducible exact up4 hb) | (with_reducible exact below_of_drew hb) | (with_reducible exact below_of_drew (up1 hb)))
  have z13 := hb'.size
  have rP0 := P0.out.below hb'; clear P0; have P0 := Lib.hid rP0; clear rP0
  have rFo1 := Fo1.out.below hb'; clear Fo1; have Fo1 := Lib.hid rFo1; clear rFo1
  have rFo7 := Fo7.out.below hb'; clear Fo7; have Fo7 := Lib.hid rFo7; clear rFo7
  have rFo8 := Fo8.out.below hb'; clear Fo8; have Fo8 := Lib.hid rFo8; clear rFo8
  have rFo14 := Fo14.out.below hb'; clear Fo14; have Fo14 := Lib.hid rFo14; clear rFo14
  have rFo15 := Fo15.out.below hb'; clear Fo15; have Fo15 := Lib.hid rFo15; clear rFo15
  have rFo16 := Fo16.out.below hb'; clear Fo16; have Fo16 := Lib.hid rFo16; clear rFo16
  have rB := below_chain B.out (by omega) hb'; clear B; have B := Lib.hid rB; clear rB
  have Fo22 := Lib.hid q20; clear q20
  clear hb hb'
  go_wp2_with fail
  refine (eqInt64S_t _ _ _ _ _ _ _ _ (by exact (Fo22.out.rdI)) (by exact (Fo7.out.rdI)) (by omega)).mono ?_
  rintro e w14 ⟨rfl, hb⟩
  have hb' : Below w13.heap.size w13 w14 := (by first | (with_reducible exact hb) | (with_reducible exact up1 hb) | (with_reducible exact up2 hb) | (with_reducible exact up3 hb) | (with_reducible exact up4 hb) | (with_reducible exact below_of_drew hb) | (with_reducible exact below_of_drew (up1 hb)))
  have z14 := hb'.size
  have rP0 := P0.out.below hb'; clear P0; have P0 := Lib.hid rP0; clear rP0
  have rFo1 := Fo1.out.below hb'; clear Fo1; have Fo1 := Lib.hid rFo1; clear rFo1
  have rFo7 := Fo7.out.below hb'; clear Fo7; have Fo7 := Lib.hid rFo7; clear rFo7
  have rFo8 := Fo8.out.below hb'; clear Fo8; have Fo8 := Lib.hid rFo8; clear rFo8
  have rFo14 := Fo14.out.below hb'; clear Fo14; have Fo14 := Lib.hid rFo14; clear rFo14
  have rFo15 := Fo15.out.below hb'; clear Fo15; have Fo15 := Lib.hid rFo15; clear rFo15
  have rFo16 := Fo16.out.below hb'; clear Fo16; have Fo16 := Lib.hid rFo16; clear rFo16
  have rFo22 := Fo22.out.below hb'; clear Fo22; have Fo22 := Lib.hid rFo22; clear rFo22
  have rB := below_chain B.out (by omega) hb'; clear B; have B := Lib.hid rB; clear rB
  clear hb hb'
  go_wp2_with fail
  refine (heldInt64S_c _ _ _ _ _ (by exact (Fo14.out.rdI)) (by omega) (by omega) (by omega)).mono ?_
  rintro e w15 ⟨rfl, hb⟩
  have hb' : Below w14.heap.size w14 w15 := (by first | (with_reducible exact hb) | (with_reducible exact up1 hb) | (with_reducible exact up2 hb) | (with_reducible exact up3 hb) | (with_reducible exact up4 hb) | (with_reducible exact below_of_drew hb) | (with_reducible exact below_of_drew (up1 hb)))
  have z15 := hb'.size
  have rP0 := P0.out.below hb'; clear P0; have P0 := Lib.hid rP0; clear rP0
  have rFo1 := Fo1.out.below hb'; clear Fo1; have Fo1 := Lib.hid rFo1; clear rFo1
  have rFo7 := Fo7.out.below hb'; clear Fo7; have Fo7 := Lib.hid rFo7; clear rFo7
  have rFo8 := Fo8.out.below hb'; clear Fo8; have Fo8 := Lib.hid rFo8; clear rFo8
  have rFo14 := Fo14.out.below hb'; clear Fo14; have Fo14 := Lib.hid rFo14; clear rFo14
  have rFo15 := Fo15.out.below hb'; clear Fo15; have Fo15 := Lib.hid rFo15; clear rFo15
  have rFo16 := Fo16.out.below hb'; clear Fo16; have Fo16 := Lib.hid rFo16; clear rFo16
  have rFo22 := Fo22.out.below hb'; clear Fo22; have Fo22 := Lib.hid rFo22; clear rFo22
  have rB := below_chain B.out (by omega) hb'; clear B; have B := Lib.hid rB; clear rB
  clear hb hb'
  go_wp2
  go_ret
  exact ⟨rfl, B.out⟩
end Go.Proofs.Ytbpeagnldgefeaa
