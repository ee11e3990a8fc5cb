/-
  FnExactRenameWhile returns true for every input: its walk, out of the contracts.
-/
import Derived.Test.YtecpbgmcednpoaaLawMachine
import Derived.Test.YtecpbgmcednpoaaLawI
import Derived.Test.YtecpbgmcednpoaaLawCommandS
import Derived.Test.YtecpbgmcednpoaaCWk
import Derived.Test.YtecpbgmcednpoaaOpen
namespace Go.Proofs.Ytecpbgmcednpoaa
open Go.RowKit

set_option maxHeartbeats 4000000 in
set_option maxRecDepth 100000 in
theorem walkRenameWhile (A0 : Option Addr) (n0 : Nat) (c0 : Nat) (ps0 : List Ct) (A1 : Option Addr) (n1 : Nat) (c1 : Nat) (xs1 : List Int) (w : World) (h0 : RdS w (sgCS A0 n0 ps0)) (hb0 : n0 ≤ 9223372036854775807) (hj0_0 : ∀ t ∈ ps0, t.n ≤ 9223372036854775807) (h1 : RdI w A1 n1 xs1) (hb1 : n1 ≤ 9223372036854775807) (_oo1 : ∀ x ∈ xs1, i64ok x) :
    Calls Try.prog 4 #[.slice A0 n0 c0, .slice A1 n1 c1] w fun e w' => e = .returned (.bool true) ∧ Below w.heap.size w w' := by
  have P0 := Lib.hid (RdSU.mk' h0); clear h0
  have P1 := Lib.hid (RdU.mk' h1); clear h1
  by_cases hsa1 : 1048576 < n1
  · go_enter Try.func4, Try.ntmps4
    go_wp2
    go_ret
    exact ⟨rfl, below_size⟩
  go_enter Try.func4, Try.ntmps4
  go_wp2_with fail
  refine (szCommandS_c _ _ _ ps0 _ _ (by exact (P0.out.rd)) hb0 hj0_0 (by omega) (by omega)).mono ?_
  rintro e w1 ⟨rfl, hb⟩
  have hb' : Below w.heap.size w w1 := (by first | (with_reducible exact hb) | (with_reducible exact up1 hb) | (with_reducible exact up2 hb) | (with_reducible exact up3 hb) | (with_reducible exact up4 hb) | (with_reducible exact below_of_drew hb) | (with_reducible exact below_of_drew (up1 hb)))
  have z1 := hb'.size
  have rP0 := P0.out.below hb'; clear P0; have P0 := Lib.hid rP0; clear rP0
  have rP1 := P1.out.below hb'; clear P1; have P1 := Lib.hid rP1; clear rP1
  have rB := hb'; have B := Lib.hid rB; clear rB
  clear hb hb'
  by_cases hs1 : 1048576 < (n0 + sumE ps0)
  · rw [szOf_neg' (by omega)]
    go_wp2
    go_ret
    exact ⟨rfl, B.out⟩
  rw [szOf_pos' (by omega)]
  have hs1' : (0 : Int) ≤ 1048576 - ((n0 + sumE ps0) : Nat) := by omega
  have hI0_a0 : ∀ t ∈ ps0, t.n ≤ 1000000000 := fun t ht => by have := sumE_mem ht; omega
  have hSz_ps0 : sumC ps0 ≤ 1000000000 := by have h1 := sumC_eq ps0; have h2 := RdCS.len (P0.out.rd); omega
  go_wp2_with fail
  refine (toCommandS_c _ _ _ _ _ (by exact (P0.out.rd)) (by omega) hI0_a0).mono ?_
  rintro e w2 ⟨g011, js012, rfl, hx0_2, q2, hb⟩
  have hb' : Below w1.heap.size w1 w2 := (by first | (with_reducible exact hb) | (with_reducible exact up1 hb) | (with_reducible exact up2 hb) | (with_reducible exact up3 hb) | (with_reducible exact up4 hb) | (with_reducible exact below_of_drew hb) | (with_reducible exact below_of_drew (up1 hb)))
  have z2 := hb'.size
  have rP0 := P0.out.below hb'; clear P0; have P0 := Lib.hid rP0; clear rP0
  have rP1 := P1.out.below hb'; clear P1; have P1 := Lib.hid rP1; clear rP1
  have rB := below_chain B.out (by omega) hb'; clear B; have B := Lib.hid rB; clear rB
  have Fo13 := Lib.hid q2; clear q2
  have hm0_o13 := hx0_2
  have hI0_o13 : ∀ t ∈ js012, t.n ≤ 1000000000 := hiC_of (P0.out.rd) (Fo13.out.rd) hx0_2 hI0_a0
  have hSm0_o13 : sumC js012 = sumC ps0 := sumC_of (P0.out.rd) (Fo13.out.rd) hx0_2
  clear hb hb'
  go_wp2_with fail
  refine (toInt64S_c _ _ _ _ _ (by exact (P1.out.1)) (by omega)).mono ?_
  rintro e w3 ⟨rfl, q3, hb⟩
  have hb' : Below w2.heap.size w2 w3 := (by first | (with_reducible exact hb) | (with_reducible exact up1 hb) | (with_reducible exact up2 hb) | (with_reducible exact up3 hb) | (with_reducible exact up4 hb) | (with_reducible exact below_of_drew hb) | (with_reducible exact below_of_drew (up1 hb)))
  have z3 := hb'.size
  have rP0 := P0.out.below hb'; clear P0; have P0 := Lib.hid rP0; clear rP0
  have rP1 := P1.out.below hb'; clear P1; have P1 := Lib.hid rP1; clear rP1
  have rFo13 := Fo13.out.below hb'; clear Fo13; have Fo13 := Lib.hid rFo13; clear rFo13
  have rB := below_chain B.out (by omega) hb'; clear B; have B := Lib.hid rB; clear rB
  have Fo14 := Lib.hid q3; clear q3
  clear hb hb'
  go_wp2_with fail
  refine (sRenameWhile_c _ _ _ _ _ _ _ _ _ (by exact (Fo13.out.rd)) (by exact (Fo14.out.rdI)) (by omega) (by omega) hI0_o13 hm0_o13).mono ?_
  rintro e w4 ⟨A15, n16, c17, ps18, rfl, q19, l20, hb⟩
  have hb' : Below w3.heap.size w3 w4 := (by first | (with_reducible exact hb) | (with_reducible exact up1 hb) | (with_reducible exact up2 hb) | (with_reducible exact up3 hb) | (with_reducible exact up4 hb) | (with_reducible exact below_of_drew hb) | (with_reducible exact below_of_drew (up1 hb)))
  have z4 := hb'.size
  have rP0 := P0.out.below hb'; clear P0; have P0 := Lib.hid rP0; clear rP0
  have rP1 := P1.out.below hb'; clear P1; have P1 := Lib.hid rP1; clear rP1
  have rFo13 := Fo13.out.below hb'; clear Fo13; have Fo13 := Lib.hid rFo13; clear rFo13
  have rFo14 := Fo14.out.below hb'; clear Fo14; have Fo14 := Lib.hid rFo14; clear rFo14
  have rB := below_chain B.out (by omega) hb'; clear B; have B := Lib.hid rB; clear rB
  have Fo21 := Lib.hid q19; clear q19
  obtain ⟨ln_o21, bI0_o21, hs0_o21, bm0_o21⟩ := l20
  have hI0_o21 := (fun t ht => Nat.le_trans (bI0_o21 t ht) (by omega) : ∀ t ∈ ps18, t.n ≤ 1000000000); have hm0_o21 := Lib.hid bm0_o21; clear bI0_o21 bm0_o21
  clear hb hb'
  go_wp2_with fail
  refine (toCommandS_c _ _ _ _ _ (by exact (P0.out.rd)) (by omega) hI0_a0).mono ?_
  rintro e w5 ⟨g022, js023, rfl, hx0_5, q5, hb⟩
  have hb' : Below w4.heap.size w4 w5 := (by first | (with_reducible exact hb) | (with_reducible exact up1 hb) | (with_reducible exact up2 hb) | (with_reducible exact up3 hb) | (with_reducible exact up4 hb) | (with_reducible exact below_of_drew hb) | (with_reducible exact below_of_drew (up1 hb)))
  have z5 := hb'.size
  have rP0 := P0.out.below hb'; clear P0; have P0 := Lib.hid rP0; clear rP0
  have rP1 := P1.out.below hb'; clear P1; have P1 := Lib.hid rP1; clear rP1
  have rFo13 := Fo13.out.below hb'; clear Fo13; have Fo13 := Lib.hid rFo13; clear rFo13
  have rFo14 := Fo14.out.below hb'; clear Fo14; have Fo14 := Lib.hid rFo14; clear rFo14
  have rFo21 := Fo21.out.below hb'; clear Fo21; have Fo21 := Lib.hid rFo21; clear rFo21
  have rB := below_chain B.out (by omega) hb'; clear B; have B := Lib.hid rB; clear rB
  have Fo24 := Lib.hid q5; clear q5
  have hm0_o24 := hx0_5
  have hI0_o24 : ∀ t ∈ js023, t.n ≤ 1000000000 := hiC_of (P0.out.rd) (Fo24.out.rd) hx0_5 hI0_a0
  have hSm0_o24 : sumC js023 = sumC ps0 := sumC_of (P0.out.rd) (Fo24.out.rd) hx0_5
  clear hb hb'
  go_wp2_with fail
  refine (toInt64S_c _ _ _ _ _ (by exact (P1.out.1)) (by omega)).mono ?_
  rintro e w6 ⟨rfl, q6, hb⟩
  have hb' : Below w5.heap.size w5 w6 := (by first | (with_reducible exact hb) | (with_reducible exact up1 hb) | (with_reducible exact up2 hb) | (with_reducible exact up3 hb) | (with_reducible exact up4 hb) | (with_reducible exact below_of_drew hb) | (with_reducible exact below_of_drew (up1 hb)))
  have z6 := hb'.size
  have rP0 := P0.out.below hb'; clear P0; have P0 := Lib.hid rP0; clear rP0
  have rP1 := P1.out.below hb'; clear P1; have P1 := Lib.hid rP1; clear rP1
  have rFo13 := Fo13.out.below hb'; clear Fo13; have Fo13 := Lib.hid rFo13; clear rFo13
  have rFo14 := Fo14.out.below hb'; clear Fo14; have Fo14 := Lib.hid rFo14; clear rFo14
  have rFo21 := Fo21.out.below hb'; clear Fo21; have Fo21 := Lib.hid rFo21; clear rFo21
  have rFo24 := Fo24.out.below hb'; clear Fo24; have Fo24 := Lib.hid rFo24; clear rFo24
  have rB := below_chain B.out (by omega) hb'; clear B; have B := Lib.hid rB; clear rB
  have Fo25 := Lib.hid q6; clear q6
  clear hb hb'
  go_wp2_with fail
  refine (iRenameWhile_c _ _ _ _ _ _ _ _ _ (by exact (Fo24.out.rd)) (by exact (Fo25.out.rdI)) (by omega) (by omega) (Nat.le_refl _) hI0_o24 hm0_o24).mono ?_
  rintro e w7 ⟨A26, n27, c28, ps29, rfl, q30, l31, hb⟩
  have hb' : Below w6.heap.size w6 w7 := (by first | (with_reducible exact hb) | (with_reducible exact up1 hb) | (with_reducible exact up2 hb) | (with_reducible exact up3 hb) | (with_reducible exact up4 hb) | (with_reducible exact below_of_drew hb) | (with_reducible exact below_of_drew (up1 hb)))
  have z7 := hb'.size
  have rP0 := P0.out.below hb'; clear P0; have P0 := Lib.hid rP0; clear rP0
  have rP1 := P1.out.below hb'; clear P1; have P1 := Lib.hid rP1; clear rP1
  have rFo13 := Fo13.out.below hb'; clear Fo13; have Fo13 := Lib.hid rFo13; clear rFo13
  have rFo14 := Fo14.out.below hb'; clear Fo14; have Fo14 := Lib.hid rFo14; clear rFo14
  have rFo21 := Fo21.out.below hb'; clear Fo21; have Fo21 := Lib.hid rFo21; clear rFo21
  have rFo24 := Fo24.out.below hb'; clear Fo24; have Fo24 := Lib.hid rFo24; clear rFo24
  have rFo25 := Fo25.out.below hb'; clear Fo25; have Fo25 := Lib.hid rFo25; clear rFo25
  have rB := below_chain B.out (by omega) hb'; clear B; have B := Lib.hid rB; clear rB
  have Fo32 := Lib.hid q30; clear q30
  obtain ⟨ln_o32, bI0_o32, hs0_o32, bm0_o32⟩ := l31
  have hI0_o32 := (fun t ht => Nat.le_trans (bI0_o32 t ht) (by omega) : ∀ t ∈ ps29, t.n ≤ 1000000000); have hm0_o32 := Lib.hid bm0_o32; clear bI0_o32 bm0_o32
  clear hb hb'
  go_wp2_with fail
  refine (eqCommandS_t _ _ _ _ _ _ _ _ _ (by exact (Fo32.out.rd)) (by exact (Fo21.out.rd)) (by omega) hI0_o32 (hm0_o32.out.trans hm0_o21.out.symm)).mono ?_
  rintro e w8 ⟨rfl, hb⟩
  have hb' : Below w7.heap.size w7 w8 := (by first | (with_reducible exact hb) | (with_reducible exact up1 hb) | (with_reducible exact up2 hb) | (with_reducible exact up3 hb) | (with_reducible exact up4 hb) | (with_reducible exact below_of_drew hb) | (with_reducible exact below_of_drew (up1 hb)))
  have z8 := hb'.size
  have rP0 := P0.out.below hb'; clear P0; have P0 := Lib.hid rP0; clear rP0
  have rP1 := P1.out.below hb'; clear P1; have P1 := Lib.hid rP1; clear rP1
  have rFo13 := Fo13.out.below hb'; clear Fo13; have Fo13 := Lib.hid rFo13; clear rFo13
  have rFo14 := Fo14.out.below hb'; clear Fo14; have Fo14 := Lib.hid rFo14; clear rFo14
  have rFo21 := Fo21.out.below hb'; clear Fo21; have Fo21 := Lib.hid rFo21; clear rFo21
  have rFo24 := Fo24.out.below hb'; clear Fo24; have Fo24 := Lib.hid rFo24; clear rFo24
  have rFo25 := Fo25.out.below hb'; clear Fo25; have Fo25 := Lib.hid rFo25; clear rFo25
  have rFo32 := Fo32.out.below hb'; clear Fo32; have Fo32 := Lib.hid rFo32; clear rFo32
  have rB := below_chain B.out (by omega) hb'; clear B; have B := Lib.hid rB; clear rB
  clear hb hb'
  go_wp2_with fail
  refine (toCommandS_c _ _ _ _ _ (by exact (P0.out.rd)) (by omega) hI0_a0).mono ?_
  rintro e w9 ⟨g033, js034, rfl, hx0_9, q9, hb⟩
  have hb' : Below w8.heap.size w8 w9 := (by first | (with_reducible exact hb) | (with_reducible exact up1 hb) | (with_reducible exact up2 hb) | (with_reducible exact up3 hb) | (with_reducible exact up4 hb) | (with_reducible exact below_of_drew hb) | (with_reducible exact below_of_drew (up1 hb)))
  have z9 := hb'.size
  have rP0 := P0.out.below hb'; clear P0; have P0 := Lib.hid rP0; clear rP0
  have rP1 := P1.out.below hb'; clear P1; have P1 := Lib.hid rP1; clear rP1
  have rFo13 := Fo13.out.below hb'; clear Fo13; have Fo13 := Lib.hid rFo13; clear rFo13
  have rFo14 := Fo14.out.below hb'; clear Fo14; have Fo14 := Lib.hid rFo14; clear rFo14
  have rFo21 := Fo21.out.below hb'; clear Fo21; have Fo21 := Lib.hid rFo21; clear rFo21
  have rFo24 := Fo24.out.below hb'; clear Fo24; have Fo24 := Lib.hid rFo24; clear rFo24
  have rFo25 := Fo25.out.below hb'; clear Fo25; have Fo25 := Lib.hid rFo25; clear rFo25
  have rFo32 := Fo32.out.below hb'; clear Fo32; have Fo32 := Lib.hid rFo32; clear rFo32
  have rB := below_chain B.out (by omega) hb'; clear B; have B := Lib.hid rB; clear rB
  have Fo35 := Lib.hid q9; clear q9
  have hm0_o35 := hx0_9
  have hI0_o35 : ∀ t ∈ js034, t.n ≤ 1000000000 := hiC_of (P0.out.rd) (Fo35.out.rd) hx0_9 hI0_a0
  have hSm0_o35 : sumC js034 = sumC ps0 := sumC_of (P0.out.rd) (Fo35.out.rd) hx0_9
  clear hb hb'
  go_wp2_with fail
  refine (eqCommandS_t _ _ _ _ _ _ _ _ _ (by exact (Fo24.out.rd)) (by exact (Fo35.out.rd)) (by omega) hI0_o24 (hm0_o24.trans hm0_o35.symm)).mono ?_
  rintro e w10 ⟨rfl, hb⟩
  have hb' : Below w9.heap.size w9 w10 := (by first | (with_reducible exact hb) | (with_reducible exact up1 hb) | (with_reducible exact up2 hb) | (with_reducible exact up3 hb) | (with_reducible exact up4 hb) | (with_reducible exact below_of_drew hb) | (with_reducible exact below_of_drew (up1 hb)))
  have z10 := hb'.size
  have rP0 := P0.out.below hb'; clear P0; have P0 := Lib.hid rP0; clear rP0
  have rP1 := P1.out.below hb'; clear P1; have P1 := Lib.hid rP1; clear rP1
  have rFo13 := Fo13.out.below hb'; clear Fo13; have Fo13 := Lib.hid rFo13; clear rFo13
  have rFo14 := Fo14.out.below hb'; clear Fo14; have Fo14 := Lib.hid rFo14; clear rFo14
  have rFo21 := Fo21.out.below hb'; clear Fo21; have Fo21 := Lib.hid rFo21; clear rFo21
  have rFo24 := Fo24.out.below hb'; clear Fo24; have Fo24 := Lib.hid rFo24; clear rFo24
  have rFo25 := Fo25.out.below hb'; clear Fo25; have Fo25 := Lib.hid rFo25; clear rFo25
  have rFo32 := Fo32.out.below hb'; clear Fo32; have Fo32 := Lib.hid rFo32; clear rFo32
  have rFo35 := Fo35.out.below hb'; clear Fo35; have Fo35 := Lib.hid rFo35; clear rFo35
  have rB := below_chain B.out (by omega) hb'; clear B; have B := Lib.hid rB; clear rB
  clear hb hb'
  go_wp2_with fail
  refine (toInt64S_c _ _ _ _ _ (by exact (P1.out.1)) (by omega)).mono ?_
  rintro e w11 ⟨rfl, q11, hb⟩
  have hb' : Below w10.heap.size w10 w11 := (by first | (with_reducible exact hb) | (with_reducible exact up1 hb) | (with_reducible exact up2 hb) | (with_reducible exact up3 hb) | (with_reducible exact up4 hb) | (with_reducible exact below_of_drew hb) | (with_reducible exact below_of_drew (up1 hb)))
  have z11 := hb'.size
  have rP0 := P0.out.below hb'; clear P0; have P0 := Lib.hid rP0; clear rP0
  have rP1 := P1.out.below hb'; clear P1; have P1 := Lib.hid rP1; clear rP1
  have rFo13 := Fo13.out.below hb'; clear Fo13; have Fo13 := Lib.hid rFo13; clear rFo13
  have rFo14 := Fo14.out.below hb'; clear Fo14; have Fo14 := Lib.hid rFo14; clear rFo14
  have rFo21 := Fo21.out.below hb'; clear Fo21; have Fo21 := Lib.hid rFo21; clear rFo21
  have rFo24 := Fo24.out.below hb'; clear Fo24; have Fo24 := Lib.hid rFo24; clear rFo24
  have rFo25 := Fo25.out.below hb'; clear Fo25; have Fo25 := Lib.hid rFo25; clear rFo25
  have rFo32 := Fo32.out.below hb'; clear Fo32; have Fo32 := Lib.hid rFo32; clear rFo32
  have rFo35 := Fo35.out.below hb'; clear Fo35; have Fo35 := Lib.hid rFo35; clear rFo35
  have rB := below_chain B.out (by omega) hb'; clear B; have B := Lib.hid rB; clear rB
  have Fo36 := Lib.hid q11; clear q11
  clear hb hb'
  go_wp2_with fail
  refine (eqInt64S_t _ _ _ _ _ _ _ _ (by exact (Fo25.out.rdI)) (by exact (Fo36.out.rdI)) (by omega)).mono ?_
  rintro e w12 ⟨rfl, hb⟩
  have hb' : Below w11.heap.size w11 w12 := (by first | (with_reducible exact hb) | (with_reducible exact up1 hb) | (with_reducible exact up2 hb) | (with_reducible exact up3 hb) | (with_reducible exact up4 hb) | (with_reducible exact below_of_drew hb) | (with_reducible exact below_of_drew (up1 hb)))
  have z12 := hb'.size
  have rP0 := P0.out.below hb'; clear P0; have P0 := Lib.hid rP0; clear rP0
  have rP1 := P1.out.below hb'; clear P1; have P1 := Lib.hid rP1; clear rP1
  have rFo13 := Fo13.out.below hb'; clear Fo13; have Fo13 := Lib.hid rFo13; clear rFo13
  have rFo14 := Fo14.out.below hb'; clear Fo14; have Fo14 := Lib.hid rFo14; clear rFo14
  have rFo21 := Fo21.out.below hb'; clear Fo21; have Fo21 := Lib.hid rFo21; clear rFo21
  have rFo24 := Fo24.out.below hb'; clear Fo24; have Fo24 := Lib.hid rFo24; clear rFo24
  have rFo25 := Fo25.out.below hb'; clear Fo25; have Fo25 := Lib.hid rFo25; clear rFo25
  have rFo32 := Fo32.out.below hb'; clear Fo32; have Fo32 := Lib.hid rFo32; clear rFo32
  have rFo35 := Fo35.out.below hb'; clear Fo35; have Fo35 := Lib.hid rFo35; clear rFo35
  have rFo36 := Fo36.out.below hb'; clear Fo36; have Fo36 := Lib.hid rFo36; clear rFo36
  have rB := below_chain B.out (by omega) hb'; clear B; have B := Lib.hid rB; clear rB
  clear hb hb'
  go_wp2_with fail
  refine (markCommandS_c _ _ _ _ _ _ _ _ (by exact (Fo24.out)) (by omega) hI0_o24 (by omega) (by omega) (by omega)).mono ?_
  rintro e w13 ⟨rfl, q13, hk⟩
  have hk' : KeepR w4.heap.size w5.heap.size w12 w13 := (by first | (with_reducible exact hk) | (with_reducible exact hk.up1) | (with_reducible exact hk.up1.up1))
  have z13 := hk'.size
  have rP0 := P0.out.keep hk' (by omega); clear P0; have P0 := Lib.hid rP0; clear rP0
  have rP1 := P1.out.keep hk' (by omega); clear P1; have P1 := Lib.hid rP1; clear rP1
  have rFo13 := Fo13.out.keep hk' (by omega); clear Fo13; have Fo13 := Lib.hid rFo13; clear rFo13
  have rFo14 := Fo14.out.keep hk' (by omega); clear Fo14; have Fo14 := Lib.hid rFo14; clear rFo14
  have rFo21 := Fo21.out.keep hk' (by omega); clear Fo21; have Fo21 := Lib.hid rFo21; clear rFo21
  have rFo24 := q13; clear Fo24; have Fo24 := Lib.hid rFo24; clear rFo24 q13
  have rFo25 := Fo25.out.keep hk' (by omega); clear Fo25; have Fo25 := Lib.hid rFo25; clear rFo25
  have rFo32 := Fo32.out.keep hk' (by omega); clear Fo32; have Fo32 := Lib.hid rFo32; clear rFo32
  have rFo35 := Fo35.out.keep hk' (by omega); clear Fo35; have Fo35 := Lib.hid rFo35; clear rFo35
  have rFo36 := Fo36.out.keep hk' (by omega); clear Fo36; have Fo36 := Lib.hid rFo36; clear rFo36
  have rB := B.out.trans (hk'.below (B := w.heap.size) (by omega) (by omega)); clear B; have B := Lib.hid rB; clear rB
  clear hk hk'
  go_wp2_with fail
  refine (markInt64S_c _ _ _ _ _ _ _ _ (by exact (Fo25.out)) (by omega) (by omega) (by omega)).mono ?_
  rintro e w14 ⟨rfl, q14, hk⟩
  have hk' : KeepR w5.heap.size w6.heap.size w13 w14 := (by first | (with_reducible exact hk) | (with_reducible exact hk.up1) | (with_reducible exact hk.up1.up1))
  have z14 := hk'.size
  have rP0 := P0.out.keep hk' (by omega); clear P0; have P0 := Lib.hid rP0; clear rP0
  have rP1 := P1.out.keep hk' (by omega); clear P1; have P1 := Lib.hid rP1; clear rP1
  have rFo13 := Fo13.out.keep hk' (by omega); clear Fo13; have Fo13 := Lib.hid rFo13; clear rFo13
  have rFo14 := Fo14.out.keep hk' (by omega); clear Fo14; have Fo14 := Lib.hid rFo14; clear rFo14
  have rFo21 := Fo21.out.keep hk' (by omega); clear Fo21; have Fo21 := Lib.hid rFo21; clear rFo21
  have rFo24 := Fo24.out.keep hk' (by omega); clear Fo24; have Fo24 := Lib.hid rFo24; clear rFo24
  have rFo25 := q14; clear Fo25; have Fo25 := Lib.hid rFo25; clear rFo25 q14
  have rFo32 := Fo32.out.keep hk' (by omega); clear Fo32; have Fo32 := Lib.hid rFo32; clear rFo32
  have rFo35 := Fo35.out.keep hk' (by omega); clear Fo35; have Fo35 := Lib.hid rFo35; clear rFo35
  have rFo36 := Fo36.out.keep hk' (by omega); clear Fo36; have Fo36 := Lib.hid rFo36; clear rFo36
  have rB := B.out.trans (hk'.below (B := w.heap.size) (by omega) (by omega)); clear B; have B := Lib.hid rB; clear rB
  clear hk hk'
  go_wp2_with fail
  refine (eqCommandS_t _ _ _ _ _ _ _ _ _ (by exact (Fo32.out.rd)) (by exact (Fo21.out.rd)) (by omega) hI0_o32 (hm0_o32.out.trans hm0_o21.out.symm)).mono ?_
  rintro e w15 ⟨rfl, hb⟩
  have hb' : Below w14.heap.size w14 w15 := (by first | (with_reducible exact hb) | (with_reducible exact up1 hb) | (with_reducible exact up2 hb) | (with_reducible exact up3 hb) | (with_reducible exact up4 hb) | (with_reducible exact below_of_drew hb) | (with_reducible exact below_of_drew (up1 hb)))
  have z15 := hb'.size
  have rP0 := P0.out.below hb'; clear P0; have P0 := Lib.hid rP0; clear rP0
  have rP1 := P1.out.below hb'; clear P1; have P1 := Lib.hid rP1; clear rP1
  have rFo13 := Fo13.out.below hb'; clear Fo13; have Fo13 := Lib.hid rFo13; clear rFo13
  have rFo14 := Fo14.out.below hb'; clear Fo14; have Fo14 := Lib.hid rFo14; clear rFo14
  have rFo21 := Fo21.out.below hb'; clear Fo21; have Fo21 := Lib.hid rFo21; clear rFo21
  have rFo24 := Fo24.out.below hb'; clear Fo24; have Fo24 := Lib.hid rFo24; clear rFo24
  have rFo25 := Fo25.out.below hb'; clear Fo25; have Fo25 := Lib.hid rFo25; clear rFo25
  have rFo32 := Fo32.out.below hb'; clear Fo32; have Fo32 := Lib.hid rFo32; clear rFo32
  have rFo35 := Fo35.out.below hb'; clear Fo35; have Fo35 := Lib.hid rFo35; clear rFo35
  have rFo36 := Fo36.out.below hb'; clear Fo36; have Fo36 := Lib.hid rFo36; clear rFo36
  have rB := below_chain B.out (by omega) hb'; clear B; have B := Lib.hid rB; clear rB
  clear hb hb'
  go_wp2_with fail
  refine (markCommandS_c _ _ _ _ _ _ _ _ (by exact (Fo32.out)) (by omega) hI0_o32 (by omega) (by omega) (by omega)).mono ?_
  rintro e w16 ⟨rfl, q16, hk⟩
  have hk' : KeepR w6.heap.size w7.heap.size w15 w16 := (by first | (with_reducible exact hk) | (with_reducible exact hk.up1) | (with_reducible exact hk.up1.up1))
  have z16 := hk'.size
  have rP0 := P0.out.keep hk' (by omega); clear P0; have P0 := Lib.hid rP0; clear rP0
  have rP1 := P1.out.keep hk' (by omega); clear P1; have P1 := Lib.hid rP1; clear rP1
  have rFo13 := Fo13.out.keep hk' (by omega); clear Fo13; have Fo13 := Lib.hid rFo13; clear rFo13
  have rFo14 := Fo14.out.keep hk' (by omega); clear Fo14; have Fo14 := Lib.hid rFo14; clear rFo14
  have rFo21 := Fo21.out.keep hk' (by omega); clear Fo21; have Fo21 := Lib.hid rFo21; clear rFo21
  have rFo24 := Fo24.out.keep hk' (by omega); clear Fo24; have Fo24 := Lib.hid rFo24; clear rFo24
  have rFo25 := Fo25.out.keep hk' (by omega); clear Fo25; have Fo25 := Lib.hid rFo25; clear rFo25
  have rFo32 := q16; clear Fo32; have Fo32 := Lib.hid rFo32; clear rFo32 q16
  have rFo35 := Fo35.out.keep hk' (by omega); clear Fo35; have Fo35 := Lib.hid rFo35; clear rFo35
  have rFo36 := Fo36.out.keep hk' (by omega); clear Fo36; have Fo36 := Lib.hid rFo36; clear rFo36
  have rB := B.out.trans (hk'.below (B := w.heap.size) (by omega) (by omega)); clear B; have B := Lib.hid rB; clear rB
  clear hk hk'
  go_wp2_with fail
  refine (heldCommandS_c _ _ _ _ _ _ (by exact (Fo32.out.rd)) (by omega) hI0_o32 (by omega) (by omega) (by omega)).mono ?_
  rintro e w17 ⟨rfl, hb⟩
  have hb' : Below w16.heap.size w16 w17 := (by first | (with_reducible exact hb) | (with_reducible exact up1 hb) | (with_reducible exact up2 hb) | (with_reducible exact up3 hb) | (with_reducible exact up4 hb) | (with_reducible exact below_of_drew hb) | (with_reducible exact below_of_drew (up1 hb)))
  have z17 := hb'.size
  have rP0 := P0.out.below hb'; clear P0; have P0 := Lib.hid rP0; clear rP0
  have rP1 := P1.out.below hb'; clear P1; have P1 := Lib.hid rP1; clear rP1
  have rFo13 := Fo13.out.below hb'; clear Fo13; have Fo13 := Lib.hid rFo13; clear rFo13
  have rFo14 := Fo14.out.below hb'; clear Fo14; have Fo14 := Lib.hid rFo14; clear rFo14
  have rFo21 := Fo21.out.below hb'; clear Fo21; have Fo21 := Lib.hid rFo21; clear rFo21
  have rFo24 := Fo24.out.below hb'; clear Fo24; have Fo24 := Lib.hid rFo24; clear rFo24
  have rFo25 := Fo25.out.below hb'; clear Fo25; have Fo25 := Lib.hid rFo25; clear rFo25
  have rFo32 := Fo32.out.below hb'; clear Fo32; have Fo32 := Lib.hid rFo32; clear rFo32
  have rFo35 := Fo35.out.below hb'; clear Fo35; have Fo35 := Lib.hid rFo35; clear rFo35
  have rFo36 := Fo36.out.below hb'; clear Fo36; have Fo36 := Lib.hid rFo36; clear rFo36
  have rB := below_chain B.out (by omega) hb'; clear B; have B := Lib.hid rB; clear rB
  clear hb hb'
  go_wp2_with fail
  refine (toCommandS_c _ _ _ _ _ (by exact (P0.out.rd)) (by omega) hI0_a0).mono ?_
  rintro e w18 ⟨g037, js038, rfl, hx0_18, q18, hb⟩
  have hb' : Below w17.heap.size w17 w18 := (by first | (with_reducible exact hb) | (with_reducible exact up1 hb) | (with_reducible exact up2 hb) | (with_reducible exact up3 hb) | (with_reducible exact up4 hb) | (with_reducible exact below_of_drew hb) | (with_reducible exact below_of_drew (up1 hb)))
  have z18 := hb'.size
  have rP0 := P0.out.below hb'; clear P0; have P0 := Lib.hid rP0; clear rP0
  have rP1 := P1.out.below hb'; clear P1; have P1 := Lib.hid rP1; clear rP1
  have rFo13 := Fo13.out.below hb'; clear Fo13; have Fo13 := Lib.hid rFo13; clear rFo13
  have rFo14 := Fo14.out.below hb'; clear Fo14; have Fo14 := Lib.hid rFo14; clear rFo14
  have rFo21 := Fo21.out.below hb'; clear Fo21; have Fo21 := Lib.hid rFo21; clear rFo21
  have rFo24 := Fo24.out.below hb'; clear Fo24; have Fo24 := Lib.hid rFo24; clear rFo24
  have rFo25 := Fo25.out.below hb'; clear Fo25; have Fo25 := Lib.hid rFo25; clear rFo25
  have rFo32 := Fo32.out.below hb'; clear Fo32; have Fo32 := Lib.hid rFo32; clear rFo32
  have rFo35 := Fo35.out.below hb'; clear Fo35; have Fo35 := Lib.hid rFo35; clear rFo35
  have rFo36 := Fo36.out.below hb'; clear Fo36; have Fo36 := Lib.hid rFo36; clear rFo36
  have rB := below_chain B.out (by omega) hb'; clear B; have B := Lib.hid rB; clear rB
  have Fo39 := Lib.hid q18; clear q18
  have hm0_o39 := hx0_18
  have hI0_o39 : ∀ t ∈ js038, t.n ≤ 1000000000 := hiC_of (P0.out.rd) (Fo39.out.rd) hx0_18 hI0_a0
  have hSm0_o39 : sumC js038 = sumC ps0 := sumC_of (P0.out.rd) (Fo39.out.rd) hx0_18
  clear hb hb'
  go_wp2_with fail
  refine (toInt64S_c _ _ _ _ _ (by exact (P1.out.1)) (by omega)).mono ?_
  rintro e w19 ⟨rfl, q19, hb⟩
  have hb' : Below w18.heap.size w18 w19 := (by first | (with_reducible exact hb) | (with_reducible exact up1 hb) | (with_reducible exact up2 hb) | (with_reducible exact up3 hb) | (with_reducible exact up4 hb) | (with_reducible exact below_of_drew hb) | (with_reducible exact below_of_drew (up1 hb)))
  have z19 := hb'.size
  have rP0 := P0.out.below hb'; clear P0; have P0 := Lib.hid rP0; clear rP0
  have rP1 := P1.out.below hb'; clear P1; have P1 := Lib.hid rP1; clear rP1
  have rFo13 := Fo13.out.below hb'; clear Fo13; have Fo13 := Lib.hid rFo13; clear rFo13
  have rFo14 := Fo14.out.below hb'; clear Fo14; have Fo14 := Lib.hid rFo14; clear rFo14
  have rFo21 := Fo21.out.below hb'; clear Fo21; have Fo21 := Lib.hid rFo21; clear rFo21
  have rFo24 := Fo24.out.below hb'; clear Fo24; have Fo24 := Lib.hid rFo24; clear rFo24
  have rFo25 := Fo25.out.below hb'; clear Fo25; have Fo25 := Lib.hid rFo25; clear rFo25
  have rFo32 := Fo32.out.below hb'; clear Fo32; have Fo32 := Lib.hid rFo32; clear rFo32
  have rFo35 := Fo35.out.below hb'; clear Fo35; have Fo35 := Lib.hid rFo35; clear rFo35
  have rFo36 := Fo36.out.below hb'; clear Fo36; have Fo36 := Lib.hid rFo36; clear rFo36
  have rFo39 := Fo39.out.below hb'; clear Fo39; have Fo39 := Lib.hid rFo39; clear rFo39
  have rB := below_chain B.out (by omega) hb'; clear B; have B := Lib.hid rB; clear rB
  have Fo40 := Lib.hid q19; clear q19
  clear hb hb'
  go_wp2_with fail
  refine (iRenameWhile_c _ _ _ _ _ _ _ _ _ (by exact (Fo39.out.rd)) (by exact (Fo40.out.rdI)) (by omega) (by omega) (Nat.le_refl _) hI0_o39 hm0_o39).mono ?_
  rintro e w20 ⟨A41, n42, c43, ps44, rfl, q45, l46, hb⟩
  have hb' : Below w19.heap.size w19 w20 := (by first | (with_reducible exact hb) | (with_reducible exact up1 hb) | (with_reducible exact up2 hb) | (with_reducible exact up3 hb) | (with_reducible exact up4 hb) | (with_reducible exact below_of_drew hb) | (with_reducible exact below_of_drew (up1 hb)))
  have z20 := hb'.size
  have rP0 := P0.out.below hb'; clear P0; have P0 := Lib.hid rP0; clear rP0
  have rP1 := P1.out.below hb'; clear P1; have P1 := Lib.hid rP1; clear rP1
  have rFo13 := Fo13.out.below hb'; clear Fo13; have Fo13 := Lib.hid rFo13; clear rFo13
  have rFo14 := Fo14.out.below hb'; clear Fo14; have Fo14 := Lib.hid rFo14; clear rFo14
  have rFo21 := Fo21.out.below hb'; clear Fo21; have Fo21 := Lib.hid rFo21; clear rFo21
  have rFo24 := Fo24.out.below hb'; clear Fo24; have Fo24 := Lib.hid rFo24; clear rFo24
  have rFo25 := Fo25.out.below hb'; clear Fo25; have Fo25 := Lib.hid rFo25; clear rFo25
  have rFo32 := Fo32.out.below hb'; clear Fo32; have Fo32 := Lib.hid rFo32; clear rFo32
  have rFo35 := Fo35.out.below hb'; clear Fo35; have Fo35 := Lib.hid rFo35; clear rFo35
  have rFo36 := Fo36.out.below hb'; clear Fo36; have Fo36 := Lib.hid rFo36; clear rFo36
  have rFo39 := Fo39.out.below hb'; clear Fo39; have Fo39 := Lib.hid rFo39; clear rFo39
  have rFo40 := Fo40.out.below hb'; clear Fo40; have Fo40 := Lib.hid rFo40; clear rFo40
  have rB := below_chain B.out (by omega) hb'; clear B; have B := Lib.hid rB; clear rB
  have Fo47 := Lib.hid q45; clear q45
  obtain ⟨ln_o47, bI0_o47, hs0_o47, bm0_o47⟩ := l46
  have hI0_o47 := (fun t ht => Nat.le_trans (bI0_o47 t ht) (by omega) : ∀ t ∈ ps44, t.n ≤ 1000000000); have hm0_o47 := Lib.hid bm0_o47; clear bI0_o47 bm0_o47
  clear hb hb'
  go_wp2_with fail
  refine (eqCommandS_t _ _ _ _ _ _ _ _ _ (by exact (Fo47.out.rd)) (by exact (Fo21.out.rd)) (by omega) hI0_o47 (hm0_o47.out.trans hm0_o21.out.symm)).mono ?_
  rintro e w21 ⟨rfl, hb⟩
  have hb' : Below w20.heap.size w20 w21 := (by first | (with_reducible exact hb) | (with_reducible exact up1 hb) | (with_reducible exact up2 hb) | (with_reducible exact up3 hb) | (with_reducible exact up4 hb) | (with_reducible exact below_of_drew hb) | (with_reducible exact below_of_drew (up1 hb)))
  have z21 := hb'.size
  have rP0 := P0.out.below hb'; clear P0; have P0 := Lib.hid rP0; clear rP0
  have rP1 := P1.out.below hb'; clear P1; have P1 := Lib.hid rP1; clear rP1
  have rFo13 := Fo13.out.below hb'; clear Fo13; have Fo13 := Lib.hid rFo13; clear rFo13
  have rFo14 := Fo14.out.below hb'; clear Fo14; have Fo14 := Lib.hid rFo14; clear rFo14
  have rFo21 := Fo21.out.below hb'; clear Fo21; have Fo21 := Lib.hid rFo21; clear rFo21
  have rFo24 := Fo24.out.below hb'; clear Fo24; have Fo24 := Lib.hid rFo24; clear rFo24
  have rFo25 := Fo25.out.below hb'; clear Fo25; have Fo25 := Lib.hid rFo25; clear rFo25
  have rFo32 := Fo32.out.below hb'; clear Fo32; have Fo32 := Lib.hid rFo32; clear rFo32
  have rFo35 := Fo35.out.below hb'; clear Fo35; have Fo35 := Lib.hid rFo35; clear rFo35
  have rFo36 := Fo36.out.below hb'; clear Fo36; have Fo36 := Lib.hid rFo36; clear rFo36
  have rFo39 := Fo39.out.below hb'; clear Fo39; have Fo39 := Lib.hid rFo39; clear rFo39
  have rFo40 := Fo40.out.below hb'; clear Fo40; have Fo40 := Lib.hid rFo40; clear rFo40
  have rFo47 := Fo47.out.below hb'; clear Fo47; have Fo47 := Lib.hid rFo47; clear rFo47
  have rB := below_chain B.out (by omega) hb'; clear B; have B := Lib.hid rB; clear rB
  clear hb hb'
  go_wp2_with fail
  refine (heldCommandS_c _ _ _ _ _ _ (by exact (Fo32.out.rd)) (by omega) hI0_o32 (by omega) (by omega) (by omega)).mono ?_
  rintro e w22 ⟨rfl, hb⟩
  have hb' : Below w21.heap.size w21 w22 := (by first | (with_reducible exact hb) | (with_reducible exact up1 hb) | (with_reducible exact up2 hb) | (with_reducible exact up3 hb) | (with_reducible exact up4 hb) | (with_reducible exact below_of_drew hb) | (with_reducible exact below_of_drew (up1 hb)))
  have z22 := hb'.size
  have rP0 := P0.out.below hb'; clear P0; have P0 := Lib.hid rP0; clear rP0
  have rP1 := P1.out.below hb'; clear P1; have P1 := Lib.hid rP1; clear rP1
  have rFo13 := Fo13.out.below hb'; clear Fo13; have Fo13 := Lib.hid rFo13; clear rFo13
  have rFo14 := Fo14.out.below hb'; clear Fo14; have Fo14 := Lib.hid rFo14; clear rFo14
  have rFo21 := Fo21.out.below hb'; clear Fo21; have Fo21 := Lib.hid rFo21; clear rFo21
  have rFo24 := Fo24.out.below hb'; clear Fo24; have Fo24 := Lib.hid rFo24; clear rFo24
  have rFo25 := Fo25.out.below hb'; clear Fo25; have Fo25 := Lib.hid rFo25; clear rFo25
  have rFo32 := Fo32.out.below hb'; clear Fo32; have Fo32 := Lib.hid rFo32; clear rFo32
  have rFo35 := Fo35.out.below hb'; clear Fo35; have Fo35 := Lib.hid rFo35; clear rFo35
  have rFo36 := Fo36.out.below hb'; clear Fo36; have Fo36 := Lib.hid rFo36; clear rFo36
  have rFo39 := Fo39.out.below hb'; clear Fo39; have Fo39 := Lib.hid rFo39; clear rFo39
  have rFo40 := Fo40.out.below hb'; clear Fo40; have Fo40 := Lib.hid rFo40; clear rFo40
  have rFo47 := Fo47.out.below hb'; clear Fo47; have Fo47 := Lib.hid rFo47; clear rFo47
  have rB := below_chain B.out (by omega) hb'; clear B; have B := Lib.hid rB; clear rB
  clear hb hb'
  go_wp2
  go_ret
  exact ⟨rfl, B.out⟩
end Go.Proofs.Ytecpbgmcednpoaa
