/-
  FnExactStandardWhile returns true for every input: its walk, out of the contracts.
-/
import Derived.Test.YtkchgjegdmcnaaaDoorLawI
import Derived.Test.YtkchgjegdmcnaaaDoorLawCommandS
import Derived.Test.YtkchgjegdmcnaaaDoorPSt
import Derived.Test.YtkchgjegdmcnaaaDoorOpen
namespace Go.Proofs.YtkchgjegdmcnaaaDoor
open Go.RowKit

set_option maxHeartbeats 4000000 in
set_option maxRecDepth 100000 in
theorem walkStandardWhile (x0 : ByteArray) (w : World) (_o0 : x0.size ≤ maxLen) (hT : Tab w) :
    Calls Tryd.prog 5 #[.string x0] w fun e w' => e = .returned (.bool true) ∧ Below w.heap.size w w' := by
  have HTB := Lib.hid hT; clear hT
  by_cases hsx0 : 1048576 < x0.size
  · go_enter Tryd.func5, Tryd.ntmps5
    go_wp2
    go_ret
    exact ⟨rfl, below_size⟩
  go_enter Tryd.func5, Tryd.ntmps5
  go_wp2_with fail
  refine (sStandardWhile_c _ _).mono ?_
  rintro e w1 ⟨A11, n12, c13, ps14, rfl, q15, l16, hb⟩
  have hb' : Below w.heap.size w w1 := (by first | (with_reducible exact hb) | (with_reducible exact up1 hb) | (with_reducible exact up2 hb) | (with_reducible exact up3 hb) | (with_reducible exact up4 hb) | (with_reducible exact below_of_drew hb) | (with_reducible exact below_of_drew (up1 hb)))
  have z1 := hb'.size
  have rB := hb'; have B := Lib.hid rB; clear rB
  have Fo17 := Lib.hid q15; clear q15
  obtain ⟨ln_o17, bI0_o17, hs0_o17, bm0_o17⟩ := l16
  have hI0_o17 := (fun t ht => Nat.le_trans (bI0_o17 t ht) (by omega) : ∀ t ∈ ps14, t.n ≤ 1000000000); have hm0_o17 := Lib.hid bm0_o17; clear bI0_o17 bm0_o17
  clear hb hb'
  go_wp2_with fail
  refine (iStandardWhile_c _ _ (by exact ((HTB.out.below B.out)))).mono ?_
  rintro e w2 ⟨A18, n19, c20, ps21, rfl, q22, l23, hb⟩
  have hb' : Below w1.heap.size w1 w2 := (by first | (with_reducible exact hb) | (with_reducible exact up1 hb) | (with_reducible exact up2 hb) | (with_reducible exact up3 hb) | (with_reducible exact up4 hb) | (with_reducible exact below_of_drew hb) | (with_reducible exact below_of_drew (up1 hb)))
  have z2 := hb'.size
  have rFo17 := Fo17.out.below hb'; clear Fo17; have Fo17 := Lib.hid rFo17; clear rFo17
  have rB := below_chain B.out (by omega) hb'; clear B; have B := Lib.hid rB; clear rB
  have Fo24 := Lib.hid q22; clear q22
  obtain ⟨ln_o24, bI0_o24, hs0_o24, bm0_o24⟩ := l23
  have hI0_o24 := (fun t ht => Nat.le_trans (bI0_o24 t ht) (by omega) : ∀ t ∈ ps21, t.n ≤ 1000000000); have hm0_o24 := Lib.hid bm0_o24; clear bI0_o24 bm0_o24
  clear hb hb'
  go_wp2_with fail
  refine (eqCommandS_t _ _ _ _ _ _ _ _ _ (by exact (Fo24.out.rd)) (by exact (Fo17.out.rd)) (by omega) hI0_o24 (hm0_o24.out.trans hm0_o17.out.symm)).mono ?_
  rintro e w3 ⟨rfl, hb⟩
  have hb' : Below w2.heap.size w2 w3 := (by first | (with_reducible exact hb) | (with_reducible exact up1 hb) | (with_reducible exact up2 hb) | (with_reducible exact up3 hb) | (with_reducible exact up4 hb) | (with_reducible exact below_of_drew hb) | (with_reducible exact below_of_drew (up1 hb)))
  have z3 := hb'.size
  have rFo17 := Fo17.out.below hb'; clear Fo17; have Fo17 := Lib.hid rFo17; clear rFo17
  have rFo24 := Fo24.out.below hb'; clear Fo24; have Fo24 := Lib.hid rFo24; clear rFo24
  have rB := below_chain B.out (by omega) hb'; clear B; have B := Lib.hid rB; clear rB
  clear hb hb'
  go_wp2_with fail
  refine (markCommandS_c _ _ _ _ _ _ _ _ (by exact (Fo24.out)) (by omega) hI0_o24 (by omega) (by omega) (by omega)).mono ?_
  rintro e w4 ⟨rfl, q4, hk⟩
  have hk' : KeepR w1.heap.size w2.heap.size w3 w4 := (by first | (with_reducible exact hk) | (with_reducible exact hk.up1) | (with_reducible exact hk.up1.up1))
  have z4 := hk'.size
  have rFo17 := Fo17.out.keep hk' (by omega); clear Fo17; have Fo17 := Lib.hid rFo17; clear rFo17
  have rFo24 := q4; clear Fo24; have Fo24 := Lib.hid rFo24; clear rFo24 q4
  have rB := B.out.trans (hk'.below (B := w.heap.size) (by omega) (by omega)); clear B; have B := Lib.hid rB; clear rB
  clear hk hk'
  go_wp2_with fail
  refine (heldCommandS_c _ _ _ _ _ _ (by exact (Fo24.out.rd)) (by omega) hI0_o24 (by omega) (by omega) (by omega)).mono ?_
  rintro e w5 ⟨rfl, hb⟩
  have hb' : Below w4.heap.size w4 w5 := (by first | (with_reducible exact hb) | (with_reducible exact up1 hb) | (with_reducible exact up2 hb) | (with_reducible exact up3 hb) | (with_reducible exact up4 hb) | (with_reducible exact below_of_drew hb) | (with_reducible exact below_of_drew (up1 hb)))
  have z5 := hb'.size
  have rFo17 := Fo17.out.below hb'; clear Fo17; have Fo17 := Lib.hid rFo17; clear rFo17
  have rFo24 := Fo24.out.below hb'; clear Fo24; have Fo24 := Lib.hid rFo24; clear rFo24
  have rB := below_chain B.out (by omega) hb'; clear B; have B := Lib.hid rB; clear rB
  clear hb hb'
  go_wp2_with fail
  refine (iStandardWhile_c _ _ (by exact ((HTB.out.below B.out)))).mono ?_
  rintro e w6 ⟨A25, n26, c27, ps28, rfl, q29, l30, hb⟩
  have hb' : Below w5.heap.size w5 w6 := (by first | (with_reducible exact hb) | (with_reducible exact up1 hb) | (with_reducible exact up2 hb) | (with_reducible exact up3 hb) | (with_reducible exact up4 hb) | (with_reducible exact below_of_drew hb) | (with_reducible exact below_of_drew (up1 hb)))
  have z6 := hb'.size
  have rFo17 := Fo17.out.below hb'; clear Fo17; have Fo17 := Lib.hid rFo17; clear rFo17
  have rFo24 := Fo24.out.below hb'; clear Fo24; have Fo24 := Lib.hid rFo24; clear rFo24
  have rB := below_chain B.out (by omega) hb'; clear B; have B := Lib.hid rB; clear rB
  have Fo31 := Lib.hid q29; clear q29
  obtain ⟨ln_o31, bI0_o31, hs0_o31, bm0_o31⟩ := l30
  have hI0_o31 := (fun t ht => Nat.le_trans (bI0_o31 t ht) (by omega) : ∀ t ∈ ps28, t.n ≤ 1000000000); have hm0_o31 := Lib.hid bm0_o31; clear bI0_o31 bm0_o31
  clear hb hb'
  go_wp2_with fail
  refine (eqCommandS_t _ _ _ _ _ _ _ _ _ (by exact (Fo31.out.rd)) (by exact (Fo17.out.rd)) (by omega) hI0_o31 (hm0_o31.out.trans hm0_o17.out.symm)).mono ?_
  rintro e w7 ⟨rfl, hb⟩
  have hb' : Below w6.heap.size w6 w7 := (by first | (with_reducible exact hb) | (with_reducible exact up1 hb) | (with_reducible exact up2 hb) | (with_reducible exact up3 hb) | (with_reducible exact up4 hb) | (with_reducible exact below_of_drew hb) | (with_reducible exact below_of_drew (up1 hb)))
  have z7 := hb'.size
  have rFo17 := Fo17.out.below hb'; clear Fo17; have Fo17 := Lib.hid rFo17; clear rFo17
  have rFo24 := Fo24.out.below hb'; clear Fo24; have Fo24 := Lib.hid rFo24; clear rFo24
  have rFo31 := Fo31.out.below hb'; clear Fo31; have Fo31 := Lib.hid rFo31; clear rFo31
  have rB := below_chain B.out (by omega) hb'; clear B; have B := Lib.hid rB; clear rB
  clear hb hb'
  go_wp2_with fail
  refine (heldCommandS_c _ _ _ _ _ _ (by exact (Fo24.out.rd)) (by omega) hI0_o24 (by omega) (by omega) (by omega)).mono ?_
  rintro e w8 ⟨rfl, hb⟩
  have hb' : Below w7.heap.size w7 w8 := (by first | (with_reducible exact hb) | (with_reducible exact up1 hb) | (with_reducible exact up2 hb) | (with_reducible exact up3 hb) | (with_reducible exact up4 hb) | (with_reducible exact below_of_drew hb) | (with_reducible exact below_of_drew (up1 hb)))
  have z8 := hb'.size
  have rFo17 := Fo17.out.below hb'; clear Fo17; have Fo17 := Lib.hid rFo17; clear rFo17
  have rFo24 := Fo24.out.below hb'; clear Fo24; have Fo24 := Lib.hid rFo24; clear rFo24
  have rFo31 := Fo31.out.below hb'; clear Fo31; have Fo31 := Lib.hid rFo31; clear rFo31
  have rB := below_chain B.out (by omega) hb'; clear B; have B := Lib.hid rB; clear rB
  clear hb hb'
  go_wp2
  go_ret
  exact ⟨rfl, B.out⟩
end Go.Proofs.YtkchgjegdmcnaaaDoor
