/-
  FnExactOneVariable returns true for every input: its walk, out of the contracts.
-/
import Derived.Test.YtecpbgmcednpoaaLawMachine
import Derived.Test.YtecpbgmcednpoaaLawI
import Derived.Test.YtecpbgmcednpoaaLawCommandS
import Derived.Test.YtecpbgmcednpoaaTwoL
import Derived.Test.YtecpbgmcednpoaaOpen
namespace Go.Proofs.Ytecpbgmcednpoaa
open Go.RowKit

set_option maxHeartbeats 4000000 in
set_option maxRecDepth 100000 in
theorem walkOneVariable (A0 : Option Addr) (n0 : Nat) (c0 : Nat) (ps0 : List Ct) (w : World) (h0 : RdS w (sgCS A0 n0 ps0)) (hb0 : n0 ≤ 9223372036854775807) (hj0_0 : ∀ t ∈ ps0, t.n ≤ 9223372036854775807) :
    Calls Try.prog 6 #[.slice A0 n0 c0] w fun e w' => e = .returned (.bool true) ∧ Below w.heap.size w w' := by
  have P0 := Lib.hid (RdSU.mk' h0); clear h0
  go_enter Try.func6, Try.ntmps6
  go_wp2_with fail
  refine (szCommandS_c _ _ _ ps0 _ _ (by exact (P0.out.rd)) hb0 hj0_0 (by omega) (by omega)).mono ?_
  rintro e w1 ⟨rfl, hb⟩
  have hb' : Below w.heap.size w w1 := (by first | (with_reducible exact hb) | (with_reducible exact up1 hb) | (with_reducible exact up2 hb) | (with_reducible exact up3 hb) | (with_reducible exact up4 hb) | (with_reducible exact below_of_drew hb) | (with_reducible exact below_of_drew (up1 hb)))
  have z1 := hb'.size
  have rP0 := P0.out.below hb'; clear P0; have P0 := Lib.hid rP0; clear rP0
  have rB := hb'; have B := Lib.hid rB; clear rB
  clear hb hb'
  by_cases hs1 : 1048576 < (n0 + sumE ps0)
  · rw [szOf_neg' (by omega)]
    go_wp2
    go_ret
    exact ⟨rfl, B.out⟩
  rw [szOf_pos' (by omega)]
  have hs1' : (0 : Int) ≤ 1048576 - ((n0 + sumE ps0) : Nat) := by omega
  have hI0_a0 : ∀ t ∈ ps0, t.n ≤ 1000000000 := fun t ht => by have := sumE_mem ht; omega
  have hSz_ps0 : sumC ps0 ≤ 1000000000 := by have h1 := sumC_eq ps0; have h2 := RdCS.len (P0.out.rd); omega
  go_wp2_with fail
  refine (toCommandS_c _ _ _ _ _ (by exact (P0.out.rd)) (by omega) hI0_a0).mono ?_
  rintro e w2 ⟨g011, js012, rfl, ⟨hx0_2, hcp0_2⟩, q2, hb⟩
  have hb' : Below w1.heap.size w1 w2 := (by first | (with_reducible exact hb) | (with_reducible exact up1 hb) | (with_reducible exact up2 hb) | (with_reducible exact up3 hb) | (with_reducible exact up4 hb) | (with_reducible exact below_of_drew hb) | (with_reducible exact below_of_drew (up1 hb)))
  have z2 := hb'.size
  have rP0 := P0.out.below hb'; clear P0; have P0 := Lib.hid rP0; clear rP0
  have rB := below_chain B.out (by omega) hb'; clear B; have B := Lib.hid rB; clear rB
  have Fo13 := Lib.hid q2; clear q2
  have hm0_o13 := hx0_2
  have hI0_o13 : ∀ t ∈ js012, t.n ≤ 1000000000 := hiC_of (P0.out.rd) (Fo13.out.rd) hx0_2 hI0_a0
  have hSm0_o13 : sumC js012 = sumC ps0 := sumC_of (P0.out.rd) (Fo13.out.rd) hx0_2
  clear hb hb'
  go_wp2_with fail
  refine (sOneVariable_c _ _ _ _ _ (by exact (Fo13.out.rd)) (by omega) hI0_o13 hcp0_2 hm0_o13).mono ?_
  rintro e w3 ⟨A14, n15, c16, ps17, rfl, q18, l19, hb⟩
  have hb' : Below w2.heap.size w2 w3 := (by first | (with_reducible exact hb) | (with_reducible exact up1 hb) | (with_reducible exact up2 hb) | (with_reducible exact up3 hb) | (with_reducible exact up4 hb) | (with_reducible exact below_of_drew hb) | (with_reducible exact below_of_drew (up1 hb)))
  have z3 := hb'.size
  have rP0 := P0.out.below hb'; clear P0; have P0 := Lib.hid rP0; clear rP0
  have rFo13 := Fo13.out.below hb'; clear Fo13; have Fo13 := Lib.hid rFo13; clear rFo13
  have rB := below_chain B.out (by omega) hb'; clear B; have B := Lib.hid rB; clear rB
  have Fo20 := Lib.hid q18; clear q18
  obtain ⟨ln_o20, bI0_o20, hs0_o20, bm0_o20⟩ := l19
  have hI0_o20 := (fun t ht => Nat.le_trans (bI0_o20 t ht) (by omega) : ∀ t ∈ ps17, t.n ≤ 1000000000); have hm0_o20 := Lib.hid bm0_o20; clear bI0_o20 bm0_o20
  clear hb hb'
  go_wp2_with fail
  refine (toCommandS_c _ _ _ _ _ (by exact (P0.out.rd)) (by omega) hI0_a0).mono ?_
  rintro e w4 ⟨g021, js022, rfl, ⟨hx0_4, hcp0_4⟩, q4, hb⟩
  have hb' : Below w3.heap.size w3 w4 := (by first | (with_reducible exact hb) | (with_reducible exact up1 hb) | (with_reducible exact up2 hb) | (with_reducible exact up3 hb) | (with_reducible exact up4 hb) | (with_reducible exact below_of_drew hb) | (with_reducible exact below_of_drew (up1 hb)))
  have z4 := hb'.size
  have rP0 := P0.out.below hb'; clear P0; have P0 := Lib.hid rP0; clear rP0
  have rFo13 := Fo13.out.below hb'; clear Fo13; have Fo13 := Lib.hid rFo13; clear rFo13
  have rFo20 := Fo20.out.below hb'; clear Fo20; have Fo20 := Lib.hid rFo20; clear rFo20
  have rB := below_chain B.out (by omega) hb'; clear B; have B := Lib.hid rB; clear rB
  have Fo23 := Lib.hid q4; clear q4
  have hm0_o23 := hx0_4
  have hI0_o23 : ∀ t ∈ js022, t.n ≤ 1000000000 := hiC_of (P0.out.rd) (Fo23.out.rd) hx0_4 hI0_a0
  have hSm0_o23 : sumC js022 = sumC ps0 := sumC_of (P0.out.rd) (Fo23.out.rd) hx0_4
  clear hb hb'
  go_wp2_with fail
  refine (iOneVariable_c _ _ _ _ _ (by exact (Fo23.out.rd)) (by omega) (Nat.le_refl _) hI0_o23 hcp0_4 hm0_o23).mono ?_
  rintro e w5 ⟨A24, n25, c26, ps27, rfl, q28, l29, hb⟩
  have hb' : Below w4.heap.size w4 w5 := (by first | (with_reducible exact hb) | (with_reducible exact up1 hb) | (with_reducible exact up2 hb) | (with_reducible exact up3 hb) | (with_reducible exact up4 hb) | (with_reducible exact below_of_drew hb) | (with_reducible exact below_of_drew (up1 hb)))
  have z5 := hb'.size
  have rP0 := P0.out.below hb'; clear P0; have P0 := Lib.hid rP0; clear rP0
  have rFo13 := Fo13.out.below hb'; clear Fo13; have Fo13 := Lib.hid rFo13; clear rFo13
  have rFo20 := Fo20.out.below hb'; clear Fo20; have Fo20 := Lib.hid rFo20; clear rFo20
  have rFo23 := Fo23.out.below hb'; clear Fo23; have Fo23 := Lib.hid rFo23; clear rFo23
  have rB := below_chain B.out (by omega) hb'; clear B; have B := Lib.hid rB; clear rB
  have Fo30 := Lib.hid q28; clear q28
  obtain ⟨ln_o30, bI0_o30, hs0_o30, bm0_o30⟩ := l29
  have hI0_o30 := (fun t ht => Nat.le_trans (bI0_o30 t ht) (by omega) : ∀ t ∈ ps27, t.n ≤ 1000000000); have hm0_o30 := Lib.hid bm0_o30; clear bI0_o30 bm0_o30
  clear hb hb'
  go_wp2_with fail
  refine (eqCommandS_t _ _ _ _ _ _ _ _ _ (by exact (Fo30.out.rd)) (by exact (Fo20.out.rd)) (by omega) hI0_o30 (hm0_o30.out.trans hm0_o20.out.symm)).mono ?_
  rintro e w6 ⟨rfl, hb⟩
  have hb' : Below w5.heap.size w5 w6 := (by first | (with_reducible exact hb) | (with_reducible exact up1 hb) | (with_reducible exact up2 hb) | (with_reducible exact up3 hb) | (with_reducible exact up4 hb) | (with_reducible exact below_of_drew hb) | (with_reducible exact below_of_drew (up1 hb)))
  have z6 := hb'.size
  have rP0 := P0.out.below hb'; clear P0; have P0 := Lib.hid rP0; clear rP0
  have rFo13 := Fo13.out.below hb'; clear Fo13; have Fo13 := Lib.hid rFo13; clear rFo13
  have rFo20 := Fo20.out.below hb'; clear Fo20; have Fo20 := Lib.hid rFo20; clear rFo20
  have rFo23 := Fo23.out.below hb'; clear Fo23; have Fo23 := Lib.hid rFo23; clear rFo23
  have rFo30 := Fo30.out.below hb'; clear Fo30; have Fo30 := Lib.hid rFo30; clear rFo30
  have rB := below_chain B.out (by omega) hb'; clear B; have B := Lib.hid rB; clear rB
  clear hb hb'
  go_wp2_with fail
  refine (toCommandS_c _ _ _ _ _ (by exact (P0.out.rd)) (by omega) hI0_a0).mono ?_
  rintro e w7 ⟨g031, js032, rfl, ⟨hx0_7, hcp0_7⟩, q7, hb⟩
  have hb' : Below w6.heap.size w6 w7 := (by first | (with_reducible exact hb) | (with_reducible exact up1 hb) | (with_reducible exact up2 hb) | (with_reducible exact up3 hb) | (with_reducible exact up4 hb) | (with_reducible exact below_of_drew hb) | (with_reducible exact below_of_drew (up1 hb)))
  have z7 := hb'.size
  have rP0 := P0.out.below hb'; clear P0; have P0 := Lib.hid rP0; clear rP0
  have rFo13 := Fo13.out.below hb'; clear Fo13; have Fo13 := Lib.hid rFo13; clear rFo13
  have rFo20 := Fo20.out.below hb'; clear Fo20; have Fo20 := Lib.hid rFo20; clear rFo20
  have rFo23 := Fo23.out.below hb'; clear Fo23; have Fo23 := Lib.hid rFo23; clear rFo23
  have rFo30 := Fo30.out.below hb'; clear Fo30; have Fo30 := Lib.hid rFo30; clear rFo30
  have rB := below_chain B.out (by omega) hb'; clear B; have B := Lib.hid rB; clear rB
  have Fo33 := Lib.hid q7; clear q7
  have hm0_o33 := hx0_7
  have hI0_o33 : ∀ t ∈ js032, t.n ≤ 1000000000 := hiC_of (P0.out.rd) (Fo33.out.rd) hx0_7 hI0_a0
  have hSm0_o33 : sumC js032 = sumC ps0 := sumC_of (P0.out.rd) (Fo33.out.rd) hx0_7
  clear hb hb'
  go_wp2_with fail
  refine (eqCommandS_t _ _ _ _ _ _ _ _ _ (by exact (Fo23.out.rd)) (by exact (Fo33.out.rd)) (by omega) hI0_o23 (hm0_o23.trans hm0_o33.symm)).mono ?_
  rintro e w8 ⟨rfl, hb⟩
  have hb' : Below w7.heap.size w7 w8 := (by first | (with_reducible exact hb) | (with_reducible exact up1 hb) | (with_reducible exact up2 hb) | (with_reducible exact up3 hb) | (with_reducible exact up4 hb) | (with_reducible exact below_of_drew hb) | (with_reducible exact below_of_drew (up1 hb)))
  have z8 := hb'.size
  have rP0 := P0.out.below hb'; clear P0; have P0 := Lib.hid rP0; clear rP0
  have rFo13 := Fo13.out.below hb'; clear Fo13; have Fo13 := Lib.hid rFo13; clear rFo13
  have rFo20 := Fo20.out.below hb'; clear Fo20; have Fo20 := Lib.hid rFo20; clear rFo20
  have rFo23 := Fo23.out.below hb'; clear Fo23; have Fo23 := Lib.hid rFo23; clear rFo23
  have rFo30 := Fo30.out.below hb'; clear Fo30; have Fo30 := Lib.hid rFo30; clear rFo30
  have rFo33 := Fo33.out.below hb'; clear Fo33; have Fo33 := Lib.hid rFo33; clear rFo33
  have rB := below_chain B.out (by omega) hb'; clear B; have B := Lib.hid rB; clear rB
  clear hb hb'
  go_wp2_with fail
  refine (markCommandS_c _ _ _ _ _ _ _ _ (by exact (Fo23.out)) (by omega) hI0_o23 (by omega) (by omega) (by omega)).mono ?_
  rintro e w9 ⟨rfl, q9, hk⟩
  have hk' : KeepR w3.heap.size w4.heap.size w8 w9 := (by first | (with_reducible exact hk) | (with_reducible exact hk.up1) | (with_reducible exact hk.up1.up1))
  have z9 := hk'.size
  have rP0 := P0.out.keep hk' (by omega); clear P0; have P0 := Lib.hid rP0; clear rP0
  have rFo13 := Fo13.out.keep hk' (by omega); clear Fo13; have Fo13 := Lib.hid rFo13; clear rFo13
  have rFo20 := Fo20.out.keep hk' (by omega); clear Fo20; have Fo20 := Lib.hid rFo20; clear rFo20
  have rFo23 := q9; clear Fo23; have Fo23 := Lib.hid rFo23; clear rFo23 q9
  have rFo30 := Fo30.out.keep hk' (by omega); clear Fo30; have Fo30 := Lib.hid rFo30; clear rFo30
  have rFo33 := Fo33.out.keep hk' (by omega); clear Fo33; have Fo33 := Lib.hid rFo33; clear rFo33
  have rB := B.out.trans (hk'.below (B := w.heap.size) (by omega) (by omega)); clear B; have B := Lib.hid rB; clear rB
  clear hk hk'
  go_wp2_with fail
  refine (eqCommandS_t _ _ _ _ _ _ _ _ _ (by exact (Fo30.out.rd)) (by exact (Fo20.out.rd)) (by omega) hI0_o30 (hm0_o30.out.trans hm0_o20.out.symm)).mono ?_
  rintro e w10 ⟨rfl, hb⟩
  have hb' : Below w9.heap.size w9 w10 := (by first | (with_reducible exact hb) | (with_reducible exact up1 hb) | (with_reducible exact up2 hb) | (with_reducible exact up3 hb) | (with_reducible exact up4 hb) | (with_reducible exact below_of_drew hb) | (with_reducible exact below_of_drew (up1 hb)))
  have z10 := hb'.size
  have rP0 := P0.out.below hb'; clear P0; have P0 := Lib.hid rP0; clear rP0
  have rFo13 := Fo13.out.below hb'; clear Fo13; have Fo13 := Lib.hid rFo13; clear rFo13
  have rFo20 := Fo20.out.below hb'; clear Fo20; have Fo20 := Lib.hid rFo20; clear rFo20
  have rFo23 := Fo23.out.below hb'; clear Fo23; have Fo23 := Lib.hid rFo23; clear rFo23
  have rFo30 := Fo30.out.below hb'; clear Fo30; have Fo30 := Lib.hid rFo30; clear rFo30
  have rFo33 := Fo33.out.below hb'; clear Fo33; have Fo33 := Lib.hid rFo33; clear rFo33
  have rB := below_chain B.out (by omega) hb'; clear B; have B := Lib.hid rB; clear rB
  clear hb hb'
  go_wp2_with fail
  refine (markCommandS_c _ _ _ _ _ _ _ _ (by exact (Fo30.out)) (by omega) hI0_o30 (by omega) (by omega) (by omega)).mono ?_
  rintro e w11 ⟨rfl, q11, hk⟩
  have hk' : KeepR w4.heap.size w5.heap.size w10 w11 := (by first | (with_reducible exact hk) | (with_reducible exact hk.up1) | (with_reducible exact hk.up1.up1))
  have z11 := hk'.size
  have rP0 := P0.out.keep hk' (by omega); clear P0; have P0 := Lib.hid rP0; clear rP0
  have rFo13 := Fo13.out.keep hk' (by omega); clear Fo13; have Fo13 := Lib.hid rFo13; clear rFo13
  have rFo20 := Fo20.out.keep hk' (by omega); clear Fo20; have Fo20 := Lib.hid rFo20; clear rFo20
  have rFo23 := Fo23.out.keep hk' (by omega); clear Fo23; have Fo23 := Lib.hid rFo23; clear rFo23
  have rFo30 := q11; clear Fo30; have Fo30 := Lib.hid rFo30; clear rFo30 q11
  have rFo33 := Fo33.out.keep hk' (by omega); clear Fo33; have Fo33 := Lib.hid rFo33; clear rFo33
  have rB := B.out.trans (hk'.below (B := w.heap.size) (by omega) (by omega)); clear B; have B := Lib.hid rB; clear rB
  clear hk hk'
  go_wp2_with fail
  refine (heldCommandS_c _ _ _ _ _ _ (by exact (Fo30.out.rd)) (by omega) hI0_o30 (by omega) (by omega) (by omega)).mono ?_
  rintro e w12 ⟨rfl, hb⟩
  have hb' : Below w11.heap.size w11 w12 := (by first | (with_reducible exact hb) | (with_reducible exact up1 hb) | (with_reducible exact up2 hb) | (with_reducible exact up3 hb) | (with_reducible exact up4 hb) | (with_reducible exact below_of_drew hb) | (with_reducible exact below_of_drew (up1 hb)))
  have z12 := hb'.size
  have rP0 := P0.out.below hb'; clear P0; have P0 := Lib.hid rP0; clear rP0
  have rFo13 := Fo13.out.below hb'; clear Fo13; have Fo13 := Lib.hid rFo13; clear rFo13
  have rFo20 := Fo20.out.below hb'; clear Fo20; have Fo20 := Lib.hid rFo20; clear rFo20
  have rFo23 := Fo23.out.below hb'; clear Fo23; have Fo23 := Lib.hid rFo23; clear rFo23
  have rFo30 := Fo30.out.below hb'; clear Fo30; have Fo30 := Lib.hid rFo30; clear rFo30
  have rFo33 := Fo33.out.below hb'; clear Fo33; have Fo33 := Lib.hid rFo33; clear rFo33
  have rB := below_chain B.out (by omega) hb'; clear B; have B := Lib.hid rB; clear rB
  clear hb hb'
  go_wp2_with fail
  refine (toCommandS_c _ _ _ _ _ (by exact (P0.out.rd)) (by omega) hI0_a0).mono ?_
  rintro e w13 ⟨g034, js035, rfl, ⟨hx0_13, hcp0_13⟩, q13, hb⟩
  have hb' : Below w12.heap.size w12 w13 := (by first | (with_reducible exact hb) | (with_reducible exact up1 hb) | (with_reducible exact up2 hb) | (with_reducible exact up3 hb) | (with_reducible exact up4 hb) | (with_reducible exact below_of_drew hb) | (with_reducible exact below_of_drew (up1 hb)))
  have z13 := hb'.size
  have rP0 := P0.out.below hb'; clear P0; have P0 := Lib.hid rP0; clear rP0
  have rFo13 := Fo13.out.below hb'; clear Fo13; have Fo13 := Lib.hid rFo13; clear rFo13
  have rFo20 := Fo20.out.below hb'; clear Fo20; have Fo20 := Lib.hid rFo20; clear rFo20
  have rFo23 := Fo23.out.below hb'; clear Fo23; have Fo23 := Lib.hid rFo23; clear rFo23
  have rFo30 := Fo30.out.below hb'; clear Fo30; have Fo30 := Lib.hid rFo30; clear rFo30
  have rFo33 := Fo33.out.below hb'; clear Fo33; have Fo33 := Lib.hid rFo33; clear rFo33
  have rB := below_chain B.out (by omega) hb'; clear B; have B := Lib.hid rB; clear rB
  have Fo36 := Lib.hid q13; clear q13
  have hm0_o36 := hx0_13
  have hI0_o36 : ∀ t ∈ js035, t.n ≤ 1000000000 := hiC_of (P0.out.rd) (Fo36.out.rd) hx0_13 hI0_a0
  have hSm0_o36 : sumC js035 = sumC ps0 := sumC_of (P0.out.rd) (Fo36.out.rd) hx0_13
  clear hb hb'
  go_wp2_with fail
  refine (iOneVariable_c _ _ _ _ _ (by exact (Fo36.out.rd)) (by omega) (Nat.le_refl _) hI0_o36 hcp0_13 hm0_o36).mono ?_
  rintro e w14 ⟨A37, n38, c39, ps40, rfl, q41, l42, hb⟩
  have hb' : Below w13.heap.size w13 w14 := (by first | (with_reducible exact hb) | (with_reducible exact up1 hb) | (with_reducible exact up2 hb) | (with_reducible exact up3 hb) | (with_reducible exact up4 hb) | (with_reducible exact below_of_drew hb) | (with_reducible exact below_of_drew (up1 hb)))
  have z14 := hb'.size
  have rP0 := P0.out.below hb'; clear P0; have P0 := Lib.hid rP0; clear rP0
  have rFo13 := Fo13.out.below hb'; clear Fo13; have Fo13 := Lib.hid rFo13; clear rFo13
  have rFo20 := Fo20.out.below hb'; clear Fo20; have Fo20 := Lib.hid rFo20; clear rFo20
  have rFo23 := Fo23.out.below hb'; clear Fo23; have Fo23 := Lib.hid rFo23; clear rFo23
  have rFo30 := Fo30.out.below hb'; clear Fo30; have Fo30 := Lib.hid rFo30; clear rFo30
  have rFo33 := Fo33.out.below hb'; clear Fo33; have Fo33 := Lib.hid rFo33; clear rFo33
  have rFo36 := Fo36.out.below hb'; clear Fo36; have Fo36 := Lib.hid rFo36; clear rFo36
  have rB := below_chain B.out (by omega) hb'; clear B; have B := Lib.hid rB; clear rB
  have Fo43 := Lib.hid q41; clear q41
  obtain ⟨ln_o43, bI0_o43, hs0_o43, bm0_o43⟩ := l42
  have hI0_o43 := (fun t ht => Nat.le_trans (bI0_o43 t ht) (by omega) : ∀ t ∈ ps40, t.n ≤ 1000000000); have hm0_o43 := Lib.hid bm0_o43; clear bI0_o43 bm0_o43
  clear hb hb'
  go_wp2_with fail
  refine (eqCommandS_t _ _ _ _ _ _ _ _ _ (by exact (Fo43.out.rd)) (by exact (Fo20.out.rd)) (by omega) hI0_o43 (hm0_o43.out.trans hm0_o20.out.symm)).mono ?_
  rintro e w15 ⟨rfl, hb⟩
  have hb' : Below w14.heap.size w14 w15 := (by first | (with_reducible exact hb) | (with_reducible exact up1 hb) | (with_reducible exact up2 hb) | (with_reducible exact up3 hb) | (with_reducible exact up4 hb) | (with_reducible exact below_of_drew hb) | (with_reducible exact below_of_drew (up1 hb)))
  have z15 := hb'.size
  have rP0 := P0.out.below hb'; clear P0; have P0 := Lib.hid rP0; clear rP0
  have rFo13 := Fo13.out.below hb'; clear Fo13; have Fo13 := Lib.hid rFo13; clear rFo13
  have rFo20 := Fo20.out.below hb'; clear Fo20; have Fo20 := Lib.hid rFo20; clear rFo20
  have rFo23 := Fo23.out.below hb'; clear Fo23; have Fo23 := Lib.hid rFo23; clear rFo23
  have rFo30 := Fo30.out.below hb'; clear Fo30; have Fo30 := Lib.hid rFo30; clear rFo30
  have rFo33 := Fo33.out.below hb'; clear Fo33; have Fo33 := Lib.hid rFo33; clear rFo33
  have rFo36 := Fo36.out.below hb'; clear Fo36; have Fo36 := Lib.hid rFo36; clear rFo36
  have rFo43 := Fo43.out.below hb'; clear Fo43; have Fo43 := Lib.hid rFo43; clear rFo43
  have rB := below_chain B.out (by omega) hb'; clear B; have B := Lib.hid rB; clear rB
  clear hb hb'
  go_wp2_with fail
  refine (heldCommandS_c _ _ _ _ _ _ (by exact (Fo30.out.rd)) (by omega) hI0_o30 (by omega) (by omega) (by omega)).mono ?_
  rintro e w16 ⟨rfl, hb⟩
  have hb' : Below w15.heap.size w15 w16 := (by first | (with_reducible exact hb) | (with_reducible exact up1 hb) | (with_reducible exact up2 hb) | (with_reducible exact up3 hb) | (with_reducible exact up4 hb) | (with_reducible exact below_of_drew hb) | (with_reducible exact below_of_drew (up1 hb)))
  have z16 := hb'.size
  have rP0 := P0.out.below hb'; clear P0; have P0 := Lib.hid rP0; clear rP0
  have rFo13 := Fo13.out.below hb'; clear Fo13; have Fo13 := Lib.hid rFo13; clear rFo13
  have rFo20 := Fo20.out.below hb'; clear Fo20; have Fo20 := Lib.hid rFo20; clear rFo20
  have rFo23 := Fo23.out.below hb'; clear Fo23; have Fo23 := Lib.hid rFo23; clear rFo23
  have rFo30 := Fo30.out.below hb'; clear Fo30; have Fo30 := Lib.hid rFo30; clear rFo30
  have rFo33 := Fo33.out.below hb'; clear Fo33; have Fo33 := Lib.hid rFo33; clear rFo33
  have rFo36 := Fo36.out.below hb'; clear Fo36; have Fo36 := Lib.hid rFo36; clear rFo36
  have rFo43 := Fo43.out.below hb'; clear Fo43; have Fo43 := Lib.hid rFo43; clear rFo43
  have rB := below_chain B.out (by omega) hb'; clear B; have B := Lib.hid rB; clear rB
  clear hb hb'
  go_wp2
  go_ret
  exact ⟨rfl, B.out⟩
end Go.Proofs.Ytecpbgmcednpoaa
