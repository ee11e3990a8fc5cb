/-
  FnExactWhileText returns true for every input: its walk, out of the contracts.
-/
import Derived.Test.YtkchgjegdmcnaaaDoorLawI
import Derived.Test.YtkchgjegdmcnaaaDoorLawCommandS
import Derived.Test.YtkchgjegdmcnaaaDoorCVd
import Derived.Test.YtkchgjegdmcnaaaDoorOpen
namespace Go.Proofs.YtkchgjegdmcnaaaDoor
open Go.RowKit

set_option maxHeartbeats 4000000 in
set_option maxRecDepth 100000 in
theorem walkWhileText (A0 : Option Addr) (n0 : Nat) (c0 : Nat) (ps0 : List Ct) (w : World) (h0 : RdS w (sgCS A0 n0 ps0)) (hb0 : n0 ≤ 9223372036854775807) (hj0_0 : ∀ t ∈ ps0, t.n ≤ 9223372036854775807) (hT : Tab w) :
    Calls Tryd.prog 3 #[.slice A0 n0 c0] w fun e w' => e = .returned (.bool true) ∧ Below w.heap.size w w' := by
  have P0 := Lib.hid (RdSU.mk' h0); clear h0
  have HTB := Lib.hid hT; clear hT
  go_enter Tryd.func3, Tryd.ntmps3
  go_wp2_with fail
  refine (szCommandS_c _ _ _ ps0 _ _ (by exact (P0.out.rd)) hb0 hj0_0 (by omega) (by omega)).mono ?_
  rintro e w1 ⟨rfl, hb⟩
  have hb' : Below w.heap.size w w1 := (by first | (with_reducible exact hb) | (with_reducible exact up1 hb) | (with_reducible exact up2 hb) | (with_reducible exact up3 hb) | (with_reducible exact up4 hb) | (with_reducible exact below_of_drew hb) | (with_reducible exact below_of_drew (up1 hb)))
  have z1 := hb'.size
  have rP0 := P0.out.below hb'; clear P0; have P0 := Lib.hid rP0; clear rP0
  have rB := hb'; have B := Lib.hid rB; clear rB
  clear hb hb'
  by_cases hs1 : 1048576 < (n0 + sumE ps0)
  · rw [szOf_neg' (by omega)]
    go_wp2
    go_ret
    exact ⟨rfl, B.out⟩
  rw [szOf_pos' (by omega)]
  have hs1' : (0 : Int) ≤ 1048576 - ((n0 + sumE ps0) : Nat) := by omega
  have hI0_a0 : ∀ t ∈ ps0, t.n ≤ 1000000000 := fun t ht => by have := sumE_mem ht; omega
  have hSz_ps0 : sumC ps0 ≤ 1000000000 := by have h1 := sumC_eq ps0; have h2 := RdCS.len (P0.out.rd); omega
  go_wp2_with fail
  refine (toCommandS_c _ _ _ _ _ (by exact (P0.out.rd)) (by omega) hI0_a0).mono ?_
  rintro e w2 ⟨g011, js012, rfl, ⟨hx0_2, hcp0_2⟩, q2, hb⟩
  have hb' : Below w1.heap.size w1 w2 := (by first | (with_reducible exact hb) | (with_reducible exact up1 hb) | (with_reducible exact up2 hb) | (with_reducible exact up3 hb) | (with_reducible exact up4 hb) | (with_reducible exact below_of_drew hb) | (with_reducible exact below_of_drew (up1 hb)))
  have z2 := hb'.size
  have rP0 := P0.out.below hb'; clear P0; have P0 := Lib.hid rP0; clear rP0
  have rB := below_chain B.out (by omega) hb'; clear B; have B := Lib.hid rB; clear rB
  have Fo13 := Lib.hid q2; clear q2
  have hm0_o13 := hx0_2
  have hI0_o13 : ∀ t ∈ js012, t.n ≤ 1000000000 := hiC_of (P0.out.rd) (Fo13.out.rd) hx0_2 hI0_a0
  have hSm0_o13 : sumC js012 = sumC ps0 := sumC_of (P0.out.rd) (Fo13.out.rd) hx0_2
  clear hb hb'
  go_wp2_with fail
  refine (sWhileText_c _ _ _ _ _ (by exact (Fo13.out.rd)) (by omega) (Nat.le_refl _) hI0_o13 hm0_o13).mono ?_
  rintro e w3 ⟨rfl, hb⟩
  have hb' : Below w2.heap.size w2 w3 := (by first | (with_reducible exact hb) | (with_reducible exact up1 hb) | (with_reducible exact up2 hb) | (with_reducible exact up3 hb) | (with_reducible exact up4 hb) | (with_reducible exact below_of_drew hb) | (with_reducible exact below_of_drew (up1 hb)))
  have z3 := hb'.size
  have rP0 := P0.out.below hb'; clear P0; have P0 := Lib.hid rP0; clear rP0
  have rFo13 := Fo13.out.below hb'; clear Fo13; have Fo13 := Lib.hid rFo13; clear rFo13
  have rB := below_chain B.out (by omega) hb'; clear B; have B := Lib.hid rB; clear rB
  clear hb hb'
  go_wp2_with fail
  refine (toCommandS_c _ _ _ _ _ (by exact (P0.out.rd)) (by omega) hI0_a0).mono ?_
  rintro e w4 ⟨g014, js015, rfl, ⟨hx0_4, hcp0_4⟩, q4, hb⟩
  have hb' : Below w3.heap.size w3 w4 := (by first | (with_reducible exact hb) | (with_reducible exact up1 hb) | (with_reducible exact up2 hb) | (with_reducible exact up3 hb) | (with_reducible exact up4 hb) | (with_reducible exact below_of_drew hb) | (with_reducible exact below_of_drew (up1 hb)))
  have z4 := hb'.size
  have rP0 := P0.out.below hb'; clear P0; have P0 := Lib.hid rP0; clear rP0
  have rFo13 := Fo13.out.below hb'; clear Fo13; have Fo13 := Lib.hid rFo13; clear rFo13
  have rB := below_chain B.out (by omega) hb'; clear B; have B := Lib.hid rB; clear rB
  have Fo16 := Lib.hid q4; clear q4
  have hm0_o16 := hx0_4
  have hI0_o16 : ∀ t ∈ js015, t.n ≤ 1000000000 := hiC_of (P0.out.rd) (Fo16.out.rd) hx0_4 hI0_a0
  have hSm0_o16 : sumC js015 = sumC ps0 := sumC_of (P0.out.rd) (Fo16.out.rd) hx0_4
  clear hb hb'
  go_wp2_with fail
  refine (iWhileText_c _ _ _ _ _ (by exact (Fo16.out.rd)) (by omega) (Nat.le_refl _) hI0_o16 hcp0_4 hm0_o16 (by exact ((HTB.out.below B.out)))).mono ?_
  rintro e w5 ⟨rfl, hb⟩
  have hb' : Below w4.heap.size w4 w5 := (by first | (with_reducible exact hb) | (with_reducible exact up1 hb) | (with_reducible exact up2 hb) | (with_reducible exact up3 hb) | (with_reducible exact up4 hb) | (with_reducible exact below_of_drew hb) | (with_reducible exact below_of_drew (up1 hb)))
  have z5 := hb'.size
  have rP0 := P0.out.below hb'; clear P0; have P0 := Lib.hid rP0; clear rP0
  have rFo13 := Fo13.out.below hb'; clear Fo13; have Fo13 := Lib.hid rFo13; clear rFo13
  have rFo16 := Fo16.out.below hb'; clear Fo16; have Fo16 := Lib.hid rFo16; clear rFo16
  have rB := below_chain B.out (by omega) hb'; clear B; have B := Lib.hid rB; clear rB
  clear hb hb'
  go_wp2_with fail
  refine (toCommandS_c _ _ _ _ _ (by exact (P0.out.rd)) (by omega) hI0_a0).mono ?_
  rintro e w6 ⟨g017, js018, rfl, ⟨hx0_6, hcp0_6⟩, q6, hb⟩
  have hb' : Below w5.heap.size w5 w6 := (by first | (with_reducible exact hb) | (with_reducible exact up1 hb) | (with_reducible exact up2 hb) | (with_reducible exact up3 hb) | (with_reducible exact up4 hb) | (with_reducible exact below_of_drew hb) | (with_reducible exact below_of_drew (up1 hb)))
  have z6 := hb'.size
  have rP0 := P0.out.below hb'; clear P0; have P0 := Lib.hid rP0; clear rP0
  have rFo13 := Fo13.out.below hb'; clear Fo13; have Fo13 := Lib.hid rFo13; clear rFo13
  have rFo16 := Fo16.out.below hb'; clear Fo16; have Fo16 := Lib.hid rFo16; clear rFo16
  have rB := below_chain B.out (by omega) hb'; clear B; have B := Lib.hid rB; clear rB
  have Fo19 := Lib.hid q6; clear q6
  have hm0_o19 := hx0_6
  have hI0_o19 : ∀ t ∈ js018, t.n ≤ 1000000000 := hiC_of (P0.out.rd) (Fo19.out.rd) hx0_6 hI0_a0
  have hSm0_o19 : sumC js018 = sumC ps0 := sumC_of (P0.out.rd) (Fo19.out.rd) hx0_6
  clear hb hb'
  go_wp2_with fail
  refine (eqCommandS_t _ _ _ _ _ _ _ _ _ (by exact (Fo16.out.rd)) (by exact (Fo19.out.rd)) (by omega) hI0_o16 (hm0_o16.trans hm0_o19.symm)).mono ?_
  rintro e w7 ⟨rfl, hb⟩
  have hb' : Below w6.heap.size w6 w7 := (by first | (with_reducible exact hb) | (with_reducible exact up1 hb) | (with_reducible exact up2 hb) | (with_reducible exact up3 hb) | (with_reducible exact up4 hb) | (with_reducible exact below_of_drew hb) | (with_reducible exact below_of_drew (up1 hb)))
  have z7 := hb'.size
  have rP0 := P0.out.below hb'; clear P0; have P0 := Lib.hid rP0; clear rP0
  have rFo13 := Fo13.out.below hb'; clear Fo13; have Fo13 := Lib.hid rFo13; clear rFo13
  have rFo16 := Fo16.out.below hb'; clear Fo16; have Fo16 := Lib.hid rFo16; clear rFo16
  have rFo19 := Fo19.out.below hb'; clear Fo19; have Fo19 := Lib.hid rFo19; clear rFo19
  have rB := below_chain B.out (by omega) hb'; clear B; have B := Lib.hid rB; clear rB
  clear hb hb'
  go_wp2
  go_ret
  exact ⟨rfl, B.out⟩
end Go.Proofs.YtkchgjegdmcnaaaDoor
