/-
  FnExactAgreeComb returns true for every input: its walk, out of the contracts.
-/
import Derived.Test.YtfgnhdmiglobhaaLawComb
import Derived.Test.YtfgnhdmiglobhaaC18j
import Derived.Test.YtfgnhdmiglobhaaOpen
namespace Go.Proofs.Ytfgnhdmiglobhaa
open Go.RowKit

set_option maxHeartbeats 4000000 in
set_option maxRecDepth 100000 in
theorem walkAgreeComb (A0 : Option Addr) (n0 : Nat) (c0 : Nat) (xs0 : List (Int × Int)) (A1 : Option Addr) (n1 : Nat) (c1 : Nat) (xs1 : List (Int × Int)) (x2 : Int) (x3 : Int) (w : World) (h0 : Rd2 w A0 n0 xs0) (hb0 : n0 ≤ 9223372036854775807) (h1 : Rd2 w A1 n1 xs1) (hb1 : n1 ≤ 9223372036854775807) (_o2 : i64ok x2) (_o3 : i64ok x3) :
    Calls Try.prog 5 #[.slice A0 n0 c0, .slice A1 n1 c1, .int .i64 x2, .int .i64 x3] w fun e w' => e = .returned (.bool true) ∧ Below w.heap.size w w' := by
  have P0 := Lib.hid (RdU.mk' h0); clear h0
  have P1 := Lib.hid (RdU.mk' h1); clear h1
  go_enter Try.func5, Try.ntmps5
  go_wp2_with fail
  refine (szCombS_c _ _ _ _ _ hb0 (by omega) (by omega)).mono ?_
  rintro e w1 ⟨rfl, hb⟩
  have hb' : Below w.heap.size w w1 := (by first | (with_reducible exact hb) | (with_reducible exact up1 hb) | (with_reducible exact up2 hb) | (with_reducible exact up3 hb) | (with_reducible exact up4 hb) | (with_reducible exact below_of_drew hb) | (with_reducible exact below_of_drew (up1 hb)))
  have z1 := hb'.size
  have rP0 := P0.out.below hb'; clear P0; have P0 := Lib.hid rP0; clear rP0
  have rP1 := P1.out.below hb'; clear P1; have P1 := Lib.hid rP1; clear rP1
  have rB := hb'; have B := Lib.hid rB; clear rB
  clear hb hb'
  by_cases hs1 : 1048576 < n0
  · rw [szOf_neg' (by omega)]
    go_wp2
    go_ret
    exact ⟨rfl, B.out⟩
  rw [szOf_pos' (by omega)]
  have hs1' : (0 : Int) ≤ 1048576 - (n0 : Nat) := by omega
  go_wp2_with fail
  refine (szCombS_c _ _ _ _ _ hb1 (by omega) (by omega)).mono ?_
  rintro e w2 ⟨rfl, hb⟩
  have hb' : Below w1.heap.size w1 w2 := (by first | (with_reducible exact hb) | (with_reducible exact up1 hb) | (with_reducible exact up2 hb) | (with_reducible exact up3 hb) | (with_reducible exact up4 hb) | (with_reducible exact below_of_drew hb) | (with_reducible exact below_of_drew (up1 hb)))
  have z2 := hb'.size
  have rP0 := P0.out.below hb'; clear P0; have P0 := Lib.hid rP0; clear rP0
  have rP1 := P1.out.below hb'; clear P1; have P1 := Lib.hid rP1; clear rP1
  have rB := below_chain B.out (by omega) hb'; clear B; have B := Lib.hid rB; clear rB
  clear hb hb'
  by_cases hs2 : 1048576 - (n0 : Nat) < n1
  · rw [szOf_neg' (by omega)]
    go_wp2
    go_ret
    exact ⟨rfl, B.out⟩
  rw [szOf_pos' (by omega)]
  have hs2' : (0 : Int) ≤ 1048576 - (n0 : Nat) - (n1 : Nat) := by omega
  go_wp2_with fail
  refine (toCombS_c _ _ _ _ _ (by exact (P0.out.1)) (by omega)).mono ?_
  rintro e w3 ⟨rfl, q3, hb⟩
  have hb' : Below w2.heap.size w2 w3 := (by first | (with_reducible exact hb) | (with_reducible exact up1 hb) | (with_reducible exact up2 hb) | (with_reducible exact up3 hb) | (with_reducible exact up4 hb) | (with_reducible exact below_of_drew hb) | (with_reducible exact below_of_drew (up1 hb)))
  have z3 := hb'.size
  have rP0 := P0.out.below hb'; clear P0; have P0 := Lib.hid rP0; clear rP0
  have rP1 := P1.out.below hb'; clear P1; have P1 := Lib.hid rP1; clear rP1
  have rB := below_chain B.out (by omega) hb'; clear B; have B := Lib.hid rB; clear rB
  have Fo11 := Lib.hid q3; clear q3
  clear hb hb'
  go_wp2_with fail
  refine (toCombS_c _ _ _ _ _ (by exact (P1.out.1)) (by omega)).mono ?_
  rintro e w4 ⟨rfl, q4, hb⟩
  have hb' : Below w3.heap.size w3 w4 := (by first | (with_reducible exact hb) | (with_reducible exact up1 hb) | (with_reducible exact up2 hb) | (with_reducible exact up3 hb) | (with_reducible exact up4 hb) | (with_reducible exact below_of_drew hb) | (with_reducible exact below_of_drew (up1 hb)))
  have z4 := hb'.size
  have rP0 := P0.out.below hb'; clear P0; have P0 := Lib.hid rP0; clear rP0
  have rP1 := P1.out.below hb'; clear P1; have P1 := Lib.hid rP1; clear rP1
  have rFo11 := Fo11.out.below hb'; clear Fo11; have Fo11 := Lib.hid rFo11; clear rFo11
  have rB := below_chain B.out (by omega) hb'; clear B; have B := Lib.hid rB; clear rB
  have Fo12 := Lib.hid q4; clear q4
  clear hb hb'
  go_wp2_with fail
  refine (sAgreeComb_c _ _ _ _ _ _ _ _ _ _ _ (by exact (Fo11.out.rd)) (by exact (Fo12.out.rd)) (by omega) (by omega)).mono ?_
  rintro e w5 ⟨rfl, hb⟩
  have hb' : Below w4.heap.size w4 w5 := (by first | (with_reducible exact hb) | (with_reducible exact up1 hb) | (with_reducible exact up2 hb) | (with_reducible exact up3 hb) | (with_reducible exact up4 hb) | (with_reducible exact below_of_drew hb) | (with_reducible exact below_of_drew (up1 hb)))
  have z5 := hb'.size
  have rP0 := P0.out.below hb'; clear P0; have P0 := Lib.hid rP0; clear rP0
  have rP1 := P1.out.below hb'; clear P1; have P1 := Lib.hid rP1; clear rP1
  have rFo11 := Fo11.out.below hb'; clear Fo11; have Fo11 := Lib.hid rFo11; clear rFo11
  have rFo12 := Fo12.out.below hb'; clear Fo12; have Fo12 := Lib.hid rFo12; clear rFo12
  have rB := below_chain B.out (by omega) hb'; clear B; have B := Lib.hid rB; clear rB
  clear hb hb'
  go_wp2_with fail
  refine (toCombS_c _ _ _ _ _ (by exact (P0.out.1)) (by omega)).mono ?_
  rintro e w6 ⟨rfl, q6, hb⟩
  have hb' : Below w5.heap.size w5 w6 := (by first | (with_reducible exact hb) | (with_reducible exact up1 hb) | (with_reducible exact up2 hb) | (with_reducible exact up3 hb) | (with_reducible exact up4 hb) | (with_reducible exact below_of_drew hb) | (with_reducible exact below_of_drew (up1 hb)))
  have z6 := hb'.size
  have rP0 := P0.out.below hb'; clear P0; have P0 := Lib.hid rP0; clear rP0
  have rP1 := P1.out.below hb'; clear P1; have P1 := Lib.hid rP1; clear rP1
  have rFo11 := Fo11.out.below hb'; clear Fo11; have Fo11 := Lib.hid rFo11; clear rFo11
  have rFo12 := Fo12.out.below hb'; clear Fo12; have Fo12 := Lib.hid rFo12; clear rFo12
  have rB := below_chain B.out (by omega) hb'; clear B; have B := Lib.hid rB; clear rB
  have Fo13 := Lib.hid q6; clear q6
  clear hb hb'
  go_wp2_with fail
  refine (toCombS_c _ _ _ _ _ (by exact (P1.out.1)) (by omega)).mono ?_
  rintro e w7 ⟨rfl, q7, hb⟩
  have hb' : Below w6.heap.size w6 w7 := (by first | (with_reducible exact hb) | (with_reducible exact up1 hb) | (with_reducible exact up2 hb) | (with_reducible exact up3 hb) | (with_reducible exact up4 hb) | (with_reducible exact below_of_drew hb) | (with_reducible exact below_of_drew (up1 hb)))
  have z7 := hb'.size
  have rP0 := P0.out.below hb'; clear P0; have P0 := Lib.hid rP0; clear rP0
  have rP1 := P1.out.below hb'; clear P1; have P1 := Lib.hid rP1; clear rP1
  have rFo11 := Fo11.out.below hb'; clear Fo11; have Fo11 := Lib.hid rFo11; clear rFo11
  have rFo12 := Fo12.out.below hb'; clear Fo12; have Fo12 := Lib.hid rFo12; clear rFo12
  have rFo13 := Fo13.out.below hb'; clear Fo13; have Fo13 := Lib.hid rFo13; clear rFo13
  have rB := below_chain B.out (by omega) hb'; clear B; have B := Lib.hid rB; clear rB
  have Fo14 := Lib.hid q7; clear q7
  clear hb hb'
  go_wp2_with fail
  refine (iAgreeComb_c _ _ _ _ _ _ _ _ _ _ _ (by exact (Fo13.out.rd)) (by exact (Fo14.out.rd)) (by omega) (by omega)).mono ?_
  rintro e w8 ⟨rfl, hb⟩
  have hb' : Below w7.heap.size w7 w8 := (by first | (with_reducible exact hb) | (with_reducible exact up1 hb) | (with_reducible exact up2 hb) | (with_reducible exact up3 hb) | (with_reducible exact up4 hb) | (with_reducible exact below_of_drew hb) | (with_reducible exact below_of_drew (up1 hb)))
  have z8 := hb'.size
  have rP0 := P0.out.below hb'; clear P0; have P0 := Lib.hid rP0; clear rP0
  have rP1 := P1.out.below hb'; clear P1; have P1 := Lib.hid rP1; clear rP1
  have rFo11 := Fo11.out.below hb'; clear Fo11; have Fo11 := Lib.hid rFo11; clear rFo11
  have rFo12 := Fo12.out.below hb'; clear Fo12; have Fo12 := Lib.hid rFo12; clear rFo12
  have rFo13 := Fo13.out.below hb'; clear Fo13; have Fo13 := Lib.hid rFo13; clear rFo13
  have rFo14 := Fo14.out.below hb'; clear Fo14; have Fo14 := Lib.hid rFo14; clear rFo14
  have rB := below_chain B.out (by omega) hb'; clear B; have B := Lib.hid rB; clear rB
  clear hb hb'
  go_wp2_with fail
  refine (toCombS_c _ _ _ _ _ (by exact (P0.out.1)) (by omega)).mono ?_
  rintro e w9 ⟨rfl, q9, hb⟩
  have hb' : Below w8.heap.size w8 w9 := (by first | (with_reducible exact hb) | (with_reducible exact up1 hb) | (with_reducible exact up2 hb) | (with_reducible exact up3 hb) | (with_reducible exact up4 hb) | (with_reducible exact below_of_drew hb) | (with_reducible exact below_of_drew (up1 hb)))
  have z9 := hb'.size
  have rP0 := P0.out.below hb'; clear P0; have P0 := Lib.hid rP0; clear rP0
  have rP1 := P1.out.below hb'; clear P1; have P1 := Lib.hid rP1; clear rP1
  have rFo11 := Fo11.out.below hb'; clear Fo11; have Fo11 := Lib.hid rFo11; clear rFo11
  have rFo12 := Fo12.out.below hb'; clear Fo12; have Fo12 := Lib.hid rFo12; clear rFo12
  have rFo13 := Fo13.out.below hb'; clear Fo13; have Fo13 := Lib.hid rFo13; clear rFo13
  have rFo14 := Fo14.out.below hb'; clear Fo14; have Fo14 := Lib.hid rFo14; clear rFo14
  have rB := below_chain B.out (by omega) hb'; clear B; have B := Lib.hid rB; clear rB
  have Fo15 := Lib.hid q9; clear q9
  clear hb hb'
  go_wp2_with fail
  refine (eqCombS_t _ _ _ _ _ _ _ _ (by exact (Fo13.out.rd)) (by exact (Fo15.out.rd)) (by omega)).mono ?_
  rintro e w10 ⟨rfl, hb⟩
  have hb' : Below w9.heap.size w9 w10 := (by first | (with_reducible exact hb) | (with_reducible exact up1 hb) | (with_reducible exact up2 hb) | (with_reducible exact up3 hb) | (with_reducible exact up4 hb) | (with_reducible exact below_of_drew hb) | (with_reducible exact below_of_drew (up1 hb)))
  have z10 := hb'.size
  have rP0 := P0.out.below hb'; clear P0; have P0 := Lib.hid rP0; clear rP0
  have rP1 := P1.out.below hb'; clear P1; have P1 := Lib.hid rP1; clear rP1
  have rFo11 := Fo11.out.below hb'; clear Fo11; have Fo11 := Lib.hid rFo11; clear rFo11
  have rFo12 := Fo12.out.below hb'; clear Fo12; have Fo12 := Lib.hid rFo12; clear rFo12
  have rFo13 := Fo13.out.below hb'; clear Fo13; have Fo13 := Lib.hid rFo13; clear rFo13
  have rFo14 := Fo14.out.below hb'; clear Fo14; have Fo14 := Lib.hid rFo14; clear rFo14
  have rFo15 := Fo15.out.below hb'; clear Fo15; have Fo15 := Lib.hid rFo15; clear rFo15
  have rB := below_chain B.out (by omega) hb'; clear B; have B := Lib.hid rB; clear rB
  clear hb hb'
  go_wp2_with fail
  refine (toCombS_c _ _ _ _ _ (by exact (P1.out.1)) (by omega)).mono ?_
  rintro e w11 ⟨rfl, q11, hb⟩
  have hb' : Below w10.heap.size w10 w11 := (by first | (with_reducible exact hb) | (with_reducible exact up1 hb) | (with_reducible exact up2 hb) | (with_reducible exact up3 hb) | (with_reducible exact up4 hb) | (with_reducible exact below_of_drew hb) | (with_reducible exact below_of_drew (up1 hb)))
  have z11 := hb'.size
  have rP0 := P0.out.below hb'; clear P0; have P0 := Lib.hid rP0; clear rP0
  have rP1 := P1.out.below hb'; clear P1; have P1 := Lib.hid rP1; clear rP1
  have rFo11 := Fo11.out.below hb'; clear Fo11; have Fo11 := Lib.hid rFo11; clear rFo11
  have rFo12 := Fo12.out.below hb'; clear Fo12; have Fo12 := Lib.hid rFo12; clear rFo12
  have rFo13 := Fo13.out.below hb'; clear Fo13; have Fo13 := Lib.hid rFo13; clear rFo13
  have rFo14 := Fo14.out.below hb'; clear Fo14; have Fo14 := Lib.hid rFo14; clear rFo14
  have rFo15 := Fo15.out.below hb'; clear Fo15; have Fo15 := Lib.hid rFo15; clear rFo15
  have rB := below_chain B.out (by omega) hb'; clear B; have B := Lib.hid rB; clear rB
  have Fo16 := Lib.hid q11; clear q11
  clear hb hb'
  go_wp2_with fail
  refine (eqCombS_t _ _ _ _ _ _ _ _ (by exact (Fo14.out.rd)) (by exact (Fo16.out.rd)) (by omega)).mono ?_
  rintro e w12 ⟨rfl, hb⟩
  have hb' : Below w11.heap.size w11 w12 := (by first | (with_reducible exact hb) | (with_reducible exact up1 hb) | (with_reducible exact up2 hb) | (with_reducible exact up3 hb) | (with_reducible exact up4 hb) | (with_reducible exact below_of_drew hb) | (with_reducible exact below_of_drew (up1 hb)))
  have z12 := hb'.size
  have rP0 := P0.out.below hb'; clear P0; have P0 := Lib.hid rP0; clear rP0
  have rP1 := P1.out.below hb'; clear P1; have P1 := Lib.hid rP1; clear rP1
  have rFo11 := Fo11.out.below hb'; clear Fo11; have Fo11 := Lib.hid rFo11; clear rFo11
  have rFo12 := Fo12.out.below hb'; clear Fo12; have Fo12 := Lib.hid rFo12; clear rFo12
  have rFo13 := Fo13.out.below hb'; clear Fo13; have Fo13 := Lib.hid rFo13; clear rFo13
  have rFo14 := Fo14.out.below hb'; clear Fo14; have Fo14 := Lib.hid rFo14; clear rFo14
  have rFo15 := Fo15.out.below hb'; clear Fo15; have Fo15 := Lib.hid rFo15; clear rFo15
  have rFo16 := Fo16.out.below hb'; clear Fo16; have Fo16 := Lib.hid rFo16; clear rFo16
  have rB := below_chain B.out (by omega) hb'; clear B; have B := Lib.hid rB; clear rB
  clear hb hb'
  go_wp2
  go_ret
  exact ⟨rfl, B.out⟩
end Go.Proofs.Ytfgnhdmiglobhaa
