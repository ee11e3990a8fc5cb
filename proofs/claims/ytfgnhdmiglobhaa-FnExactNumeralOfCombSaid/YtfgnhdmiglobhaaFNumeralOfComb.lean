/-
  FnExactNumeralOfComb returns true for every input: its walk, out of the contracts.
-/
import Derived.Test.YtfgnhdmiglobhaaLawComb
import Derived.Test.YtfgnhdmiglobhaaC18f
import Derived.Test.YtfgnhdmiglobhaaOpen
namespace Go.Proofs.Ytfgnhdmiglobhaa
open Go.RowKit

set_option maxHeartbeats 4000000 in
set_option maxRecDepth 100000 in
theorem walkNumeralOfComb (A0 : Option Addr) (n0 : Nat) (c0 : Nat) (xs0 : List (Int × Int)) (x1 : Int) (w : World) (h0 : Rd2 w A0 n0 xs0) (hb0 : n0 ≤ 9223372036854775807) (_o1 : i64ok x1) :
    Calls Try.prog 4 #[.slice A0 n0 c0, .int .i64 x1] w fun e w' => e = .returned (.bool true) ∧ Below w.heap.size w w' := by
  have P0 := Lib.hid (RdU.mk' h0); clear h0
  go_enter Try.func4, Try.ntmps4
  go_wp2_with fail
  refine (szCombS_c _ _ _ _ _ hb0 (by omega) (by omega)).mono ?_
  rintro e w1 ⟨rfl, hb⟩
  have hb' : Below w.heap.size w w1 := (by first | (with_reducible exact hb) | (with_reducible exact up1 hb) | (with_reducible exact up2 hb) | (with_reducible exact up3 hb) | (with_reducible exact up4 hb) | (with_reducible exact below_of_drew hb) | (with_reducible exact below_of_drew (up1 hb)))
  have z1 := hb'.size
  have rP0 := P0.out.below hb'; clear P0; have P0 := Lib.hid rP0; clear rP0
  have rB := hb'; have B := Lib.hid rB; clear rB
  clear hb hb'
  by_cases hs1 : 1048576 < n0
  · rw [szOf_neg' (by omega)]
    go_wp2
    go_ret
    exact ⟨rfl, B.out⟩
  rw [szOf_pos' (by omega)]
  have hs1' : (0 : Int) ≤ 1048576 - (n0 : Nat) := by omega
  go_wp2_with fail
  refine (toCombS_c _ _ _ _ _ (by exact (P0.out.1)) (by omega)).mono ?_
  rintro e w2 ⟨rfl, q2, hb⟩
  have hb' : Below w1.heap.size w1 w2 := (by first | (with_reducible exact hb) | (with_reducible exact up1 hb) | (with_reducible exact up2 hb) | (with_reducible exact up3 hb) | (with_reducible exact up4 hb) | (with_reducible exact below_of_drew hb) | (with_reducible exact below_of_drew (up1 hb)))
  have z2 := hb'.size
  have rP0 := P0.out.below hb'; clear P0; have P0 := Lib.hid rP0; clear rP0
  have rB := below_chain B.out (by omega) hb'; clear B; have B := Lib.hid rB; clear rB
  have Fo11 := Lib.hid q2; clear q2
  clear hb hb'
  go_wp2_with fail
  refine (sNumeralOfComb_c _ _ _ _ _ _ (by exact (Fo11.out.rd)) (by omega)).mono ?_
  rintro e w3 ⟨rfl, hb⟩
  have hb' : Below w2.heap.size w2 w3 := (by first | (with_reducible exact hb) | (with_reducible exact up1 hb) | (with_reducible exact up2 hb) | (with_reducible exact up3 hb) | (with_reducible exact up4 hb) | (with_reducible exact below_of_drew hb) | (with_reducible exact below_of_drew (up1 hb)))
  have z3 := hb'.size
  have rP0 := P0.out.below hb'; clear P0; have P0 := Lib.hid rP0; clear rP0
  have rFo11 := Fo11.out.below hb'; clear Fo11; have Fo11 := Lib.hid rFo11; clear rFo11
  have rB := below_chain B.out (by omega) hb'; clear B; have B := Lib.hid rB; clear rB
  clear hb hb'
  go_wp2_with fail
  refine (toCombS_c _ _ _ _ _ (by exact (P0.out.1)) (by omega)).mono ?_
  rintro e w4 ⟨rfl, q4, hb⟩
  have hb' : Below w3.heap.size w3 w4 := (by first | (with_reducible exact hb) | (with_reducible exact up1 hb) | (with_reducible exact up2 hb) | (with_reducible exact up3 hb) | (with_reducible exact up4 hb) | (with_reducible exact below_of_drew hb) | (with_reducible exact below_of_drew (up1 hb)))
  have z4 := hb'.size
  have rP0 := P0.out.below hb'; clear P0; have P0 := Lib.hid rP0; clear rP0
  have rFo11 := Fo11.out.below hb'; clear Fo11; have Fo11 := Lib.hid rFo11; clear rFo11
  have rB := below_chain B.out (by omega) hb'; clear B; have B := Lib.hid rB; clear rB
  have Fo12 := Lib.hid q4; clear q4
  clear hb hb'
  go_wp2_with fail
  refine (iNumeralOfComb_c _ _ _ _ _ _ (by exact (Fo12.out.rd)) (by omega)).mono ?_
  rintro e w5 ⟨rfl, hb⟩
  have hb' : Below w4.heap.size w4 w5 := (by first | (with_reducible exact hb) | (with_reducible exact up1 hb) | (with_reducible exact up2 hb) | (with_reducible exact up3 hb) | (with_reducible exact up4 hb) | (with_reducible exact below_of_drew hb) | (with_reducible exact below_of_drew (up1 hb)))
  have z5 := hb'.size
  have rP0 := P0.out.below hb'; clear P0; have P0 := Lib.hid rP0; clear rP0
  have rFo11 := Fo11.out.below hb'; clear Fo11; have Fo11 := Lib.hid rFo11; clear rFo11
  have rFo12 := Fo12.out.below hb'; clear Fo12; have Fo12 := Lib.hid rFo12; clear rFo12
  have rB := below_chain B.out (by omega) hb'; clear B; have B := Lib.hid rB; clear rB
  clear hb hb'
  go_wp2_with fail
  refine (toCombS_c _ _ _ _ _ (by exact (P0.out.1)) (by omega)).mono ?_
  rintro e w6 ⟨rfl, q6, hb⟩
  have hb' : Below w5.heap.size w5 w6 := (by first | (with_reducible exact hb) | (with_reducible exact up1 hb) | (with_reducible exact up2 hb) | (with_reducible exact up3 hb) | (with_reducible exact up4 hb) | (with_reducible exact below_of_drew hb) | (with_reducible exact below_of_drew (up1 hb)))
  have z6 := hb'.size
  have rP0 := P0.out.below hb'; clear P0; have P0 := Lib.hid rP0; clear rP0
  have rFo11 := Fo11.out.below hb'; clear Fo11; have Fo11 := Lib.hid rFo11; clear rFo11
  have rFo12 := Fo12.out.below hb'; clear Fo12; have Fo12 := Lib.hid rFo12; clear rFo12
  have rB := below_chain B.out (by omega) hb'; clear B; have B := Lib.hid rB; clear rB
  have Fo13 := Lib.hid q6; clear q6
  clear hb hb'
  go_wp2_with fail
  refine (eqCombS_t _ _ _ _ _ _ _ _ (by exact (Fo12.out.rd)) (by exact (Fo13.out.rd)) (by omega)).mono ?_
  rintro e w7 ⟨rfl, hb⟩
  have hb' : Below w6.heap.size w6 w7 := (by first | (with_reducible exact hb) | (with_reducible exact up1 hb) | (with_reducible exact up2 hb) | (with_reducible exact up3 hb) | (with_reducible exact up4 hb) | (with_reducible exact below_of_drew hb) | (with_reducible exact below_of_drew (up1 hb)))
  have z7 := hb'.size
  have rP0 := P0.out.below hb'; clear P0; have P0 := Lib.hid rP0; clear rP0
  have rFo11 := Fo11.out.below hb'; clear Fo11; have Fo11 := Lib.hid rFo11; clear rFo11
  have rFo12 := Fo12.out.below hb'; clear Fo12; have Fo12 := Lib.hid rFo12; clear rFo12
  have rFo13 := Fo13.out.below hb'; clear Fo13; have Fo13 := Lib.hid rFo13; clear rFo13
  have rB := below_chain B.out (by omega) hb'; clear B; have B := Lib.hid rB; clear rB
  clear hb hb'
  go_wp2
  go_ret
  exact ⟨rfl, B.out⟩
end Go.Proofs.Ytfgnhdmiglobhaa
