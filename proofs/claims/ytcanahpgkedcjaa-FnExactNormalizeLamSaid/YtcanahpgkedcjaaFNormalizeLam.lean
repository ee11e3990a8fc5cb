/-
  FnExactNormalizeLam returns true for every input: its walk, out of the contracts.
-/
import Derived.Test.YtcanahpgkedcjaaLawLam
import Derived.Test.YtcanahpgkedcjaaC12t
import Derived.Test.YtcanahpgkedcjaaOpen
namespace Go.Proofs.Ytcanahpgkedcjaa
open Go.RowKit

set_option maxHeartbeats 4000000 in
set_option maxRecDepth 100000 in
theorem walkNormalizeLam (A0 : Option Addr) (n0 : Nat) (c0 : Nat) (xs0 : List (Int × Int)) (x1 : Int) (w : World) (h0 : Rd2 w A0 n0 xs0) (hb0 : n0 ≤ 9223372036854775807) (_o1 : i64ok x1) :
    Calls Try.prog 3 #[.slice A0 n0 c0, .int .i64 x1] w fun e w' => e = .returned (.bool true) ∧ Below w.heap.size w w' := by
  have P0 := Lib.hid (RdU.mk' h0); clear h0
  go_enter Try.func3, Try.ntmps3
  go_wp2_with fail
  refine (szLamS_c _ _ _ _ _ hb0 (by omega) (by omega)).mono ?_
  rintro e w1 ⟨rfl, hb⟩
  have hb' : Below w.heap.size w w1 := (by first | (with_reducible exact hb) | (with_reducible exact up1 hb) | (with_reducible exact up2 hb) | (with_reducible exact up3 hb) | (with_reducible exact up4 hb) | (with_reducible exact below_of_drew hb) | (with_reducible exact below_of_drew (up1 hb)))
  have z1 := hb'.size
  have rP0 := P0.out.below hb'; clear P0; have P0 := Lib.hid rP0; clear rP0
  have rB := hb'; have B := Lib.hid rB; clear rB
  clear hb hb'
  by_cases hs1 : 1048576 < n0
  · rw [szOf_neg' (by omega)]
    go_wp2
    go_ret
    exact ⟨rfl, B.out⟩
  rw [szOf_pos' (by omega)]
  have hs1' : (0 : Int) ≤ 1048576 - (n0 : Nat) := by omega
  go_wp2_with fail
  refine (toLamS_c _ _ _ _ _ (by exact (P0.out.1)) (by omega)).mono ?_
  rintro e w2 ⟨rfl, q2, hb⟩
  have hb' : Below w1.heap.size w1 w2 := (by first | (with_reducible exact hb) | (with_reducible exact up1 hb) | (with_reducible exact up2 hb) | (with_reducible exact up3 hb) | (with_reducible exact up4 hb) | (with_reducible exact below_of_drew hb) | (with_reducible exact below_of_drew (up1 hb)))
  have z2 := hb'.size
  have rP0 := P0.out.below hb'; clear P0; have P0 := Lib.hid rP0; clear rP0
  have rB := below_chain B.out (by omega) hb'; clear B; have B := Lib.hid rB; clear rB
  have Fo11 := Lib.hid q2; clear q2
  clear hb hb'
  go_wp2_with fail
  refine (sNormalizeLam_c _ _ _ _ _ _ (by exact (Fo11.out.rd)) (by omega)).mono ?_
  rintro e w3 ⟨A12, n13, c14, rfl, q15, l16, hb⟩
  have hb' : Below w2.heap.size w2 w3 := (by first | (with_reducible exact hb) | (with_reducible exact up1 hb) | (with_reducible exact up2 hb) | (with_reducible exact up3 hb) | (with_reducible exact up4 hb) | (with_reducible exact below_of_drew hb) | (with_reducible exact below_of_drew (up1 hb)))
  have z3 := hb'.size
  have rP0 := P0.out.below hb'; clear P0; have P0 := Lib.hid rP0; clear rP0
  have rFo11 := Fo11.out.below hb'; clear Fo11; have Fo11 := Lib.hid rFo11; clear rFo11
  have rB := below_chain B.out (by omega) hb'; clear B; have B := Lib.hid rB; clear rB
  have Fo17 := Lib.hid q15; clear q15
  clear hb hb'
  go_wp2_with fail
  refine (toLamS_c _ _ _ _ _ (by exact (P0.out.1)) (by omega)).mono ?_
  rintro e w4 ⟨rfl, q4, hb⟩
  have hb' : Below w3.heap.size w3 w4 := (by first | (with_reducible exact hb) | (with_reducible exact up1 hb) | (with_reducible exact up2 hb) | (with_reducible exact up3 hb) | (with_reducible exact up4 hb) | (with_reducible exact below_of_drew hb) | (with_reducible exact below_of_drew (up1 hb)))
  have z4 := hb'.size
  have rP0 := P0.out.below hb'; clear P0; have P0 := Lib.hid rP0; clear rP0
  have rFo11 := Fo11.out.below hb'; clear Fo11; have Fo11 := Lib.hid rFo11; clear rFo11
  have rFo17 := Fo17.out.below hb'; clear Fo17; have Fo17 := Lib.hid rFo17; clear rFo17
  have rB := below_chain B.out (by omega) hb'; clear B; have B := Lib.hid rB; clear rB
  have Fo18 := Lib.hid q4; clear q4
  clear hb hb'
  go_wp2_with fail
  refine (iNormalizeLam_c _ _ _ _ _ _ (by exact (Fo18.out.rd)) (by omega)).mono ?_
  rintro e w5 ⟨A19, n20, c21, rfl, q22, l23, hb⟩
  have hb' : Below w4.heap.size w4 w5 := (by first | (with_reducible exact hb) | (with_reducible exact up1 hb) | (with_reducible exact up2 hb) | (with_reducible exact up3 hb) | (with_reducible exact up4 hb) | (with_reducible exact below_of_drew hb) | (with_reducible exact below_of_drew (up1 hb)))
  have z5 := hb'.size
  have rP0 := P0.out.below hb'; clear P0; have P0 := Lib.hid rP0; clear rP0
  have rFo11 := Fo11.out.below hb'; clear Fo11; have Fo11 := Lib.hid rFo11; clear rFo11
  have rFo17 := Fo17.out.below hb'; clear Fo17; have Fo17 := Lib.hid rFo17; clear rFo17
  have rFo18 := Fo18.out.below hb'; clear Fo18; have Fo18 := Lib.hid rFo18; clear rFo18
  have rB := below_chain B.out (by omega) hb'; clear B; have B := Lib.hid rB; clear rB
  have Fo24 := Lib.hid q22; clear q22
  clear hb hb'
  go_wp2_with fail
  refine (eqLamS_t _ _ _ _ _ _ _ _ (by exact (Fo24.out.rd)) (by exact (Fo17.out.rd)) (by omega)).mono ?_
  rintro e w6 ⟨rfl, hb⟩
  have hb' : Below w5.heap.size w5 w6 := (by first | (with_reducible exact hb) | (with_reducible exact up1 hb) | (with_reducible exact up2 hb) | (with_reducible exact up3 hb) | (with_reducible exact up4 hb) | (with_reducible exact below_of_drew hb) | (with_reducible exact below_of_drew (up1 hb)))
  have z6 := hb'.size
  have rP0 := P0.out.below hb'; clear P0; have P0 := Lib.hid rP0; clear rP0
  have rFo11 := Fo11.out.below hb'; clear Fo11; have Fo11 := Lib.hid rFo11; clear rFo11
  have rFo17 := Fo17.out.below hb'; clear Fo17; have Fo17 := Lib.hid rFo17; clear rFo17
  have rFo18 := Fo18.out.below hb'; clear Fo18; have Fo18 := Lib.hid rFo18; clear rFo18
  have rFo24 := Fo24.out.below hb'; clear Fo24; have Fo24 := Lib.hid rFo24; clear rFo24
  have rB := below_chain B.out (by omega) hb'; clear B; have B := Lib.hid rB; clear rB
  clear hb hb'
  go_wp2_with fail
  refine (toLamS_c _ _ _ _ _ (by exact (P0.out.1)) (by omega)).mono ?_
  rintro e w7 ⟨rfl, q7, hb⟩
  have hb' : Below w6.heap.size w6 w7 := (by first | (with_reducible exact hb) | (with_reducible exact up1 hb) | (with_reducible exact up2 hb) | (with_reducible exact up3 hb) | (with_reducible exact up4 hb) | (with_reducible exact below_of_drew hb) | (with_reducible exact below_of_drew (up1 hb)))
  have z7 := hb'.size
  have rP0 := P0.out.below hb'; clear P0; have P0 := Lib.hid rP0; clear rP0
  have rFo11 := Fo11.out.below hb'; clear Fo11; have Fo11 := Lib.hid rFo11; clear rFo11
  have rFo17 := Fo17.out.below hb'; clear Fo17; have Fo17 := Lib.hid rFo17; clear rFo17
  have rFo18 := Fo18.out.below hb'; clear Fo18; have Fo18 := Lib.hid rFo18; clear rFo18
  have rFo24 := Fo24.out.below hb'; clear Fo24; have Fo24 := Lib.hid rFo24; clear rFo24
  have rB := below_chain B.out (by omega) hb'; clear B; have B := Lib.hid rB; clear rB
  have Fo25 := Lib.hid q7; clear q7
  clear hb hb'
  go_wp2_with fail
  refine (eqLamS_t _ _ _ _ _ _ _ _ (by exact (Fo18.out.rd)) (by exact (Fo25.out.rd)) (by omega)).mono ?_
  rintro e w8 ⟨rfl, hb⟩
  have hb' : Below w7.heap.size w7 w8 := (by first | (with_reducible exact hb) | (with_reducible exact up1 hb) | (with_reducible exact up2 hb) | (with_reducible exact up3 hb) | (with_reducible exact up4 hb) | (with_reducible exact below_of_drew hb) | (with_reducible exact below_of_drew (up1 hb)))
  have z8 := hb'.size
  have rP0 := P0.out.below hb'; clear P0; have P0 := Lib.hid rP0; clear rP0
  have rFo11 := Fo11.out.below hb'; clear Fo11; have Fo11 := Lib.hid rFo11; clear rFo11
  have rFo17 := Fo17.out.below hb'; clear Fo17; have Fo17 := Lib.hid rFo17; clear rFo17
  have rFo18 := Fo18.out.below hb'; clear Fo18; have Fo18 := Lib.hid rFo18; clear rFo18
  have rFo24 := Fo24.out.below hb'; clear Fo24; have Fo24 := Lib.hid rFo24; clear rFo24
  have rFo25 := Fo25.out.below hb'; clear Fo25; have Fo25 := Lib.hid rFo25; clear rFo25
  have rB := below_chain B.out (by omega) hb'; clear B; have B := Lib.hid rB; clear rB
  clear hb hb'
  go_wp2_with fail
  refine (markLamS_c _ _ _ _ _ _ _ _ (by exact (Fo18.out)) (by omega) (by omega) (by omega)).mono ?_
  rintro e w9 ⟨rfl, q9, hk⟩
  have hk' : KeepR w3.heap.size w4.heap.size w8 w9 := (by first | (with_reducible exact hk) | (with_reducible exact hk.up1) | (with_reducible exact hk.up1.up1))
  have z9 := hk'.size
  have rP0 := P0.out.keep hk' (by omega); clear P0; have P0 := Lib.hid rP0; clear rP0
  have rFo11 := Fo11.out.keep hk' (by omega); clear Fo11; have Fo11 := Lib.hid rFo11; clear rFo11
  have rFo17 := Fo17.out.keep hk' (by omega); clear Fo17; have Fo17 := Lib.hid rFo17; clear rFo17
  have rFo18 := q9; clear Fo18; have Fo18 := Lib.hid rFo18; clear rFo18 q9
  have rFo24 := Fo24.out.keep hk' (by omega); clear Fo24; have Fo24 := Lib.hid rFo24; clear rFo24
  have rFo25 := Fo25.out.keep hk' (by omega); clear Fo25; have Fo25 := Lib.hid rFo25; clear rFo25
  have rB := B.out.trans (hk'.below (B := w.heap.size) (by omega) (by omega)); clear B; have B := Lib.hid rB; clear rB
  clear hk hk'
  go_wp2_with fail
  refine (eqLamS_t _ _ _ _ _ _ _ _ (by exact (Fo24.out.rd)) (by exact (Fo17.out.rd)) (by omega)).mono ?_
  rintro e w10 ⟨rfl, hb⟩
  have hb' : Below w9.heap.size w9 w10 := (by first | (with_reducible exact hb) | (with_reducible exact up1 hb) | (with_reducible exact up2 hb) | (with_reducible exact up3 hb) | (with_reducible exact up4 hb) | (with_reducible exact below_of_drew hb) | (with_reducible exact below_of_drew (up1 hb)))
  have z10 := hb'.size
  have rP0 := P0.out.below hb'; clear P0; have P0 := Lib.hid rP0; clear rP0
  have rFo11 := Fo11.out.below hb'; clear Fo11; have Fo11 := Lib.hid rFo11; clear rFo11
  have rFo17 := Fo17.out.below hb'; clear Fo17; have Fo17 := Lib.hid rFo17; clear rFo17
  have rFo18 := Fo18.out.below hb'; clear Fo18; have Fo18 := Lib.hid rFo18; clear rFo18
  have rFo24 := Fo24.out.below hb'; clear Fo24; have Fo24 := Lib.hid rFo24; clear rFo24
  have rFo25 := Fo25.out.below hb'; clear Fo25; have Fo25 := Lib.hid rFo25; clear rFo25
  have rB := below_chain B.out (by omega) hb'; clear B; have B := Lib.hid rB; clear rB
  clear hb hb'
  go_wp2_with fail
  refine (markLamS_c _ _ _ _ _ _ _ _ (by exact (Fo24.out)) (by omega) (by omega) (by omega)).mono ?_
  rintro e w11 ⟨rfl, q11, hk⟩
  have hk' : KeepR w4.heap.size w5.heap.size w10 w11 := (by first | (with_reducible exact hk) | (with_reducible exact hk.up1) | (with_reducible exact hk.up1.up1))
  have z11 := hk'.size
  have rP0 := P0.out.keep hk' (by omega); clear P0; have P0 := Lib.hid rP0; clear rP0
  have rFo11 := Fo11.out.keep hk' (by omega); clear Fo11; have Fo11 := Lib.hid rFo11; clear rFo11
  have rFo17 := Fo17.out.keep hk' (by omega); clear Fo17; have Fo17 := Lib.hid rFo17; clear rFo17
  have rFo18 := Fo18.out.keep hk' (by omega); clear Fo18; have Fo18 := Lib.hid rFo18; clear rFo18
  have rFo24 := q11; clear Fo24; have Fo24 := Lib.hid rFo24; clear rFo24 q11
  have rFo25 := Fo25.out.keep hk' (by omega); clear Fo25; have Fo25 := Lib.hid rFo25; clear rFo25
  have rB := B.out.trans (hk'.below (B := w.heap.size) (by omega) (by omega)); clear B; have B := Lib.hid rB; clear rB
  clear hk hk'
  go_wp2_with fail
  refine (heldLamS_c _ _ _ _ _ (by exact (Fo24.out.rd)) (by omega) (by omega) (by omega)).mono ?_
  rintro e w12 ⟨rfl, hb⟩
  have hb' : Below w11.heap.size w11 w12 := (by first | (with_reducible exact hb) | (with_reducible exact up1 hb) | (with_reducible exact up2 hb) | (with_reducible exact up3 hb) | (with_reducible exact up4 hb) | (with_reducible exact below_of_drew hb) | (with_reducible exact below_of_drew (up1 hb)))
  have z12 := hb'.size
  have rP0 := P0.out.below hb'; clear P0; have P0 := Lib.hid rP0; clear rP0
  have rFo11 := Fo11.out.below hb'; clear Fo11; have Fo11 := Lib.hid rFo11; clear rFo11
  have rFo17 := Fo17.out.below hb'; clear Fo17; have Fo17 := Lib.hid rFo17; clear rFo17
  have rFo18 := Fo18.out.below hb'; clear Fo18; have Fo18 := Lib.hid rFo18; clear rFo18
  have rFo24 := Fo24.out.below hb'; clear Fo24; have Fo24 := Lib.hid rFo24; clear rFo24
  have rFo25 := Fo25.out.below hb'; clear Fo25; have Fo25 := Lib.hid rFo25; clear rFo25
  have rB := below_chain B.out (by omega) hb'; clear B; have B := Lib.hid rB; clear rB
  clear hb hb'
  go_wp2_with fail
  refine (toLamS_c _ _ _ _ _ (by exact (P0.out.1)) (by omega)).mono ?_
  rintro e w13 ⟨rfl, q13, hb⟩
  have hb' : Below w12.heap.size w12 w13 := (by first | (with_reducible exact hb) | (with_reducible exact up1 hb) | (with_reducible exact up2 hb) | (with_reducible exact up3 hb) | (with_reducible exact up4 hb) | (with_reducible exact below_of_drew hb) | (with_reducible exact below_of_drew (up1 hb)))
  have z13 := hb'.size
  have rP0 := P0.out.below hb'; clear P0; have P0 := Lib.hid rP0; clear rP0
  have rFo11 := Fo11.out.below hb'; clear Fo11; have Fo11 := Lib.hid rFo11; clear rFo11
  have rFo17 := Fo17.out.below hb'; clear Fo17; have Fo17 := Lib.hid rFo17; clear rFo17
  have rFo18 := Fo18.out.below hb'; clear Fo18; have Fo18 := Lib.hid rFo18; clear rFo18
  have rFo24 := Fo24.out.below hb'; clear Fo24; have Fo24 := Lib.hid rFo24; clear rFo24
  have rFo25 := Fo25.out.below hb'; clear Fo25; have Fo25 := Lib.hid rFo25; clear rFo25
  have rB := below_chain B.out (by omega) hb'; clear B; have B := Lib.hid rB; clear rB
  have Fo26 := Lib.hid q13; clear q13
  clear hb hb'
  go_wp2_with fail
  refine (iNormalizeLam_c _ _ _ _ _ _ (by exact (Fo26.out.rd)) (by omega)).mono ?_
  rintro e w14 ⟨A27, n28, c29, rfl, q30, l31, hb⟩
  have hb' : Below w13.heap.size w13 w14 := (by first | (with_reducible exact hb) | (with_reducible exact up1 hb) | (with_reducible exact up2 hb) | (with_reducible exact up3 hb) | (with_reducible exact up4 hb) | (with_reducible exact below_of_drew hb) | (with_reducible exact below_of_drew (up1 hb)))
  have z14 := hb'.size
  have rP0 := P0.out.below hb'; clear P0; have P0 := Lib.hid rP0; clear rP0
  have rFo11 := Fo11.out.below hb'; clear Fo11; have Fo11 := Lib.hid rFo11; clear rFo11
  have rFo17 := Fo17.out.below hb'; clear Fo17; have Fo17 := Lib.hid rFo17; clear rFo17
  have rFo18 := Fo18.out.below hb'; clear Fo18; have Fo18 := Lib.hid rFo18; clear rFo18
  have rFo24 := Fo24.out.below hb'; clear Fo24; have Fo24 := Lib.hid rFo24; clear rFo24
  have rFo25 := Fo25.out.below hb'; clear Fo25; have Fo25 := Lib.hid rFo25; clear rFo25
  have rFo26 := Fo26.out.below hb'; clear Fo26; have Fo26 := Lib.hid rFo26; clear rFo26
  have rB := below_chain B.out (by omega) hb'; clear B; have B := Lib.hid rB; clear rB
  have Fo32 := Lib.hid q30; clear q30
  clear hb hb'
  go_wp2_with fail
  refine (eqLamS_t _ _ _ _ _ _ _ _ (by exact (Fo32.out.rd)) (by exact (Fo17.out.rd)) (by omega)).mono ?_
  rintro e w15 ⟨rfl, hb⟩
  have hb' : Below w14.heap.size w14 w15 := (by first | (with_reducible exact hb) | (with_reducible exact up1 hb) | (with_reducible exact up2 hb) | (with_reducible exact up3 hb) | (with_reducible exact up4 hb) | (with_reducible exact below_of_drew hb) | (with_reducible exact below_of_drew (up1 hb)))
  have z15 := hb'.size
  have rP0 := P0.out.below hb'; clear P0; have P0 := Lib.hid rP0; clear rP0
  have rFo11 := Fo11.out.below hb'; clear Fo11; have Fo11 := Lib.hid rFo11; clear rFo11
  have rFo17 := Fo17.out.below hb'; clear Fo17; have Fo17 := Lib.hid rFo17; clear rFo17
  have rFo18 := Fo18.out.below hb'; clear Fo18; have Fo18 := Lib.hid rFo18; clear rFo18
  have rFo24 := Fo24.out.below hb'; clear Fo24; have Fo24 := Lib.hid rFo24; clear rFo24
  have rFo25 := Fo25.out.below hb'; clear Fo25; have Fo25 := Lib.hid rFo25; clear rFo25
  have rFo26 := Fo26.out.below hb'; clear Fo26; have Fo26 := Lib.hid rFo26; clear rFo26
  have rFo32 := Fo32.out.below hb'; clear Fo32; have Fo32 := Lib.hid rFo32; clear rFo32
  have rB := below_chain B.out (by omega) hb'; clear B; have B := Lib.hid rB; clear rB
  clear hb hb'
  go_wp2_with fail
  refine (heldLamS_c _ _ _ _ _ (by exact (Fo24.out.rd)) (by omega) (by omega) (by omega)).mono ?_
  rintro e w16 ⟨rfl, hb⟩
  have hb' : Below w15.heap.size w15 w16 := (by first | (with_reducible exact hb) | (with_reducible exact up1 hb) | (with_reducible exact up2 hb) | (with_reducible exact up3 hb) | (with_reducible exact up4 hb) | (with_reducible exact below_of_drew hb) | (with_reducible exact below_of_drew (up1 hb)))
  have z16 := hb'.size
  have rP0 := P0.out.below hb'; clear P0; have P0 := Lib.hid rP0; clear rP0
  have rFo11 := Fo11.out.below hb'; clear Fo11; have Fo11 := Lib.hid rFo11; clear rFo11
  have rFo17 := Fo17.out.below hb'; clear Fo17; have Fo17 := Lib.hid rFo17; clear rFo17
  have rFo18 := Fo18.out.below hb'; clear Fo18; have Fo18 := Lib.hid rFo18; clear rFo18
  have rFo24 := Fo24.out.below hb'; clear Fo24; have Fo24 := Lib.hid rFo24; clear rFo24
  have rFo25 := Fo25.out.below hb'; clear Fo25; have Fo25 := Lib.hid rFo25; clear rFo25
  have rFo26 := Fo26.out.below hb'; clear Fo26; have Fo26 := Lib.hid rFo26; clear rFo26
  have rFo32 := Fo32.out.below hb'; clear Fo32; have Fo32 := Lib.hid rFo32; clear rFo32
  have rB := below_chain B.out (by omega) hb'; clear B; have B := Lib.hid rB; clear rB
  clear hb hb'
  go_wp2
  go_ret
  exact ⟨rfl, B.out⟩
end Go.Proofs.Ytcanahpgkedcjaa
