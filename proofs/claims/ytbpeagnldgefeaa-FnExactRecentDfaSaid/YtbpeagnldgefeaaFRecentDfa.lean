/-
  FnExactRecentDfa returns true for every input: its walk, out of the contracts.
-/
import Derived.Test.YtbpeagnldgefeaaLawDfa
import Derived.Test.YtbpeagnldgefeaaC28e
import Derived.Test.YtbpeagnldgefeaaOpen
namespace Go.Proofs.Ytbpeagnldgefeaa
open Go.RowKit

set_option maxHeartbeats 4000000 in
set_option maxRecDepth 100000 in
theorem walkRecentDfa (x0 : Int) (x1 : Int) (w : World) (_o0 : i64ok x0) (_o1 : i64ok x1) :
    Calls Try.prog 5 #[.int .i64 x0, .int .i64 x1] w fun e w' => e = .returned (.bool true) ∧ Below w.heap.size w w' := by
  go_enter Try.func5, Try.ntmps5
  go_wp2_with fail
  refine (sRecentDfa_c _ _ _).mono ?_
  rintro e w1 ⟨A1, n2, c3, rfl, q4, l5, hb⟩
  have hb' : Below w.heap.size w w1 := (by first | (with_reducible exact hb) | (with_reducible exact up1 hb) | (with_reducible exact up2 hb) | (with_reducible exact up3 hb) | (with_reducible exact up4 hb) | (with_reducible exact below_of_drew hb) | (with_reducible exact below_of_drew (up1 hb)))
  have z1 := hb'.size
  have rB := hb'; have B := Lib.hid rB; clear rB
  have Fo6 := Lib.hid q4; clear q4
  clear hb hb'
  go_wp2_with fail
  refine (iRecentDfa_c _ _ _).mono ?_
  rintro e w2 ⟨A7, n8, c9, rfl, q10, l11, hb⟩
  try simp only [World.size_alloc] at q10
  have hb' : Below w1.heap.size w1 w2 := (by first | (with_reducible exact hb) | (with_reducible exact up1 hb) | (with_reducible exact up2 hb) | (with_reducible exact up3 hb) | (with_reducible exact up4 hb) | (with_reducible exact below_of_drew hb) | (with_reducible exact below_of_drew (up1 hb)))
  have z2 := hb'.size
  have c2_o6_0 : w2.cell? ⟨w1.heap.size, 0, none⟩ = some (.int .i64 (recR x0 x1).1.1) := keepc hb (by simp)
  have c2_o6_1 : w2.cell? ⟨w1.heap.size, 1, none⟩ = some (.slice A1 n2 c3) := keepc hb (by simp)
  have ac2_o6_0 := fun o => keepa o c2_o6_0
  have ac2_o6_1 := fun o => keepa o c2_o6_1
  have rFo6 := Fo6.out.below hb'; clear Fo6; have Fo6 := Lib.hid rFo6; clear rFo6
  have rB := below_chain B.out (by omega) hb'; clear B; have B := Lib.hid rB; clear rB
  have Fo12 := Lib.hid q10; clear q10
  clear hb hb'
  go_wp2_with fail
  refine (eqDfa_t _ _ _ _ _ _ _ _ _ (by exact ((Fo12.out.rdI).alloc _)) (by exact ((Fo6.out.rdI).alloc _)) (by omega)).mono ?_
  rintro e w3 ⟨rfl, hb⟩
  have hb' : Below w2.heap.size w2 w3 := (by first | (with_reducible exact hb) | (with_reducible exact up1 hb) | (with_reducible exact up2 hb) | (with_reducible exact up3 hb) | (with_reducible exact up4 hb) | (with_reducible exact below_of_drew hb) | (with_reducible exact below_of_drew (up1 hb)))
  have z3 := hb'.size
  have c3_o6_0 : w3.cell? ⟨w1.heap.size, 0, none⟩ = some (.int .i64 (recR x0 x1).1.1) := keepc hb' c2_o6_0
  clear c2_o6_0 ac2_o6_0
  have c3_o6_1 : w3.cell? ⟨w1.heap.size, 1, none⟩ = some (.slice A1 n2 c3) := keepc hb' c2_o6_1
  clear c2_o6_1 ac2_o6_1
  have c3_o12_0 : w3.cell? ⟨w2.heap.size, 0, none⟩ = some (.int .i64 (recR x0 x1).1.1) := keepc hb (by simp)
  have c3_o12_1 : w3.cell? ⟨w2.heap.size, 1, none⟩ = some (.slice A7 n8 c9) := keepc hb (by simp)
  have ac3_o6_0 := fun o => keepa o c3_o6_0
  have ac3_o6_1 := fun o => keepa o c3_o6_1
  have ac3_o12_0 := fun o => keepa o c3_o12_0
  have ac3_o12_1 := fun o => keepa o c3_o12_1
  have rFo6 := Fo6.out.below hb'; clear Fo6; have Fo6 := Lib.hid rFo6; clear rFo6
  have rFo12 := Fo12.out.below hb'; clear Fo12; have Fo12 := Lib.hid rFo12; clear rFo12
  have rB := below_chain B.out (by omega) hb'; clear B; have B := Lib.hid rB; clear rB
  clear hb hb'
  go_wp2_with fail
  refine (markDfa_c _ _ _ _ _ _ _ _ _ (by exact (Fo12.out)) (by omega) (by omega) (by omega)).mono ?_
  rintro e w4 ⟨rfl, q4, hk⟩
  have hk' : KeepR (w1.heap.size + 1) w2.heap.size w3 w4 := (by first | (with_reducible exact hk) | (with_reducible exact hk.up1) | (with_reducible exact hk.up1.up1))
  have z4 := hk'.size
  have c4_o6_0 : w4.cell? ⟨w1.heap.size, 0, none⟩ = some (.int .i64 (recR x0 x1).1.1) := hk'.cell (by simp <;> omega) c3_o6_0
  clear c3_o6_0 ac3_o6_0
  have c4_o6_1 : w4.cell? ⟨w1.heap.size, 1, none⟩ = some (.slice A1 n2 c3) := hk'.cell (by simp <;> omega) c3_o6_1
  clear c3_o6_1 ac3_o6_1
  have c4_o12_0 : w4.cell? ⟨w2.heap.size, 0, none⟩ = some (.int .i64 (recR x0 x1).1.1) := hk'.cell (by simp <;> omega) c3_o12_0
  clear c3_o12_0 ac3_o12_0
  have c4_o12_1 : w4.cell? ⟨w2.heap.size, 1, none⟩ = some (.slice A7 n8 c9) := hk'.cell (by simp <;> omega) c3_o12_1
  clear c3_o12_1 ac3_o12_1
  have ac4_o6_0 := fun o => keepa o c4_o6_0
  have ac4_o6_1 := fun o => keepa o c4_o6_1
  have ac4_o12_0 := fun o => keepa o c4_o12_0
  have ac4_o12_1 := fun o => keepa o c4_o12_1
  have rFo6 := Fo6.out.keep hk' (by omega); clear Fo6; have Fo6 := Lib.hid rFo6; clear rFo6
  have rFo12 := q4; clear Fo12; have Fo12 := Lib.hid rFo12; clear rFo12 q4
  have rB := B.out.trans (hk'.below (B := w.heap.size) (by omega) (by omega)); clear B; have B := Lib.hid rB; clear rB
  clear hk hk'
  go_wp2_with fail
  refine (heldDfa_c _ _ _ _ _ _ (by exact (Fo12.out.rdI)) (by omega) (by omega) (by omega)).mono ?_
  rintro e w5 ⟨rfl, hb⟩
  have hb' : Below w4.heap.size w4 w5 := (by first | (with_reducible exact hb) | (with_reducible exact up1 hb) | (with_reducible exact up2 hb) | (with_reducible exact up3 hb) | (with_reducible exact up4 hb) | (with_reducible exact below_of_drew hb) | (with_reducible exact below_of_drew (up1 hb)))
  have z5 := hb'.size
  have c5_o6_0 : w5.cell? ⟨w1.heap.size, 0, none⟩ = some (.int .i64 (recR x0 x1).1.1) := keepc hb' c4_o6_0
  clear c4_o6_0 ac4_o6_0
  have c5_o6_1 : w5.cell? ⟨w1.heap.size, 1, none⟩ = some (.slice A1 n2 c3) := keepc hb' c4_o6_1
  clear c4_o6_1 ac4_o6_1
  have c5_o12_0 : w5.cell? ⟨w2.heap.size, 0, none⟩ = some (.int .i64 (recR x0 x1).1.1) := keepc hb' c4_o12_0
  clear c4_o12_0 ac4_o12_0
  have c5_o12_1 : w5.cell? ⟨w2.heap.size, 1, none⟩ = some (.slice A7 n8 c9) := keepc hb' c4_o12_1
  clear c4_o12_1 ac4_o12_1
  have ac5_o6_0 := fun o => keepa o c5_o6_0
  have ac5_o6_1 := fun o => keepa o c5_o6_1
  have ac5_o12_0 := fun o => keepa o c5_o12_0
  have ac5_o12_1 := fun o => keepa o c5_o12_1
  have rFo6 := Fo6.out.below hb'; clear Fo6; have Fo6 := Lib.hid rFo6; clear rFo6
  have rFo12 := Fo12.out.below hb'; clear Fo12; have Fo12 := Lib.hid rFo12; clear rFo12
  have rB := below_chain B.out (by omega) hb'; clear B; have B := Lib.hid rB; clear rB
  clear hb hb'
  go_wp2_with fail
  refine (iRecentDfa_c _ _ _).mono ?_
  rintro e w6 ⟨A13, n14, c15, rfl, q16, l17, hb⟩
  have hb' : Below w5.heap.size w5 w6 := (by first | (with_reducible exact hb) | (with_reducible exact up1 hb) | (with_reducible exact up2 hb) | (with_reducible exact up3 hb) | (with_reducible exact up4 hb) | (with_reducible exact below_of_drew hb) | (with_reducible exact below_of_drew (up1 hb)))
  have z6 := hb'.size
  have c6_o6_0 : w6.cell? ⟨w1.heap.size, 0, none⟩ = some (.int .i64 (recR x0 x1).1.1) := keepc hb' c5_o6_0
  clear c5_o6_0 ac5_o6_0
  have c6_o6_1 : w6.cell? ⟨w1.heap.size, 1, none⟩ = some (.slice A1 n2 c3) := keepc hb' c5_o6_1
  clear c5_o6_1 ac5_o6_1
  have c6_o12_0 : w6.cell? ⟨w2.heap.size, 0, none⟩ = some (.int .i64 (recR x0 x1).1.1) := keepc hb' c5_o12_0
  clear c5_o12_0 ac5_o12_0
  have c6_o12_1 : w6.cell? ⟨w2.heap.size, 1, none⟩ = some (.slice A7 n8 c9) := keepc hb' c5_o12_1
  clear c5_o12_1 ac5_o12_1
  have ac6_o6_0 := fun o => keepa o c6_o6_0
  have ac6_o6_1 := fun o => keepa o c6_o6_1
  have ac6_o12_0 := fun o => keepa o c6_o12_0
  have ac6_o12_1 := fun o => keepa o c6_o12_1
  have rFo6 := Fo6.out.below hb'; clear Fo6; have Fo6 := Lib.hid rFo6; clear rFo6
  have rFo12 := Fo12.out.below hb'; clear Fo12; have Fo12 := Lib.hid rFo12; clear rFo12
  have rB := below_chain B.out (by omega) hb'; clear B; have B := Lib.hid rB; clear rB
  have Fo18 := Lib.hid q16; clear q16
  clear hb hb'
  go_wp2_with fail
  refine (eqDfa_t _ _ _ _ _ _ _ _ _ (by exact ((Fo18.out.rdI).alloc _)) (by exact ((Fo6.out.rdI).alloc _)) (by omega)).mono ?_
  rintro e w7 ⟨rfl, hb⟩
  have hb' : Below w6.heap.size w6 w7 := (by first | (with_reducible exact hb) | (with_reducible exact up1 hb) | (with_reducible exact up2 hb) | (with_reducible exact up3 hb) | (with_reducible exact up4 hb) | (with_reducible exact below_of_drew hb) | (with_reducible exact below_of_drew (up1 hb)))
  have z7 := hb'.size
  have c7_o6_0 : w7.cell? ⟨w1.heap.size, 0, none⟩ = some (.int .i64 (recR x0 x1).1.1) := keepc hb' c6_o6_0
  clear c6_o6_0 ac6_o6_0
  have c7_o6_1 : w7.cell? ⟨w1.heap.size, 1, none⟩ = some (.slice A1 n2 c3) := keepc hb' c6_o6_1
  clear c6_o6_1 ac6_o6_1
  have c7_o12_0 : w7.cell? ⟨w2.heap.size, 0, none⟩ = some (.int .i64 (recR x0 x1).1.1) := keepc hb' c6_o12_0
  clear c6_o12_0 ac6_o12_0
  have c7_o12_1 : w7.cell? ⟨w2.heap.size, 1, none⟩ = some (.slice A7 n8 c9) := keepc hb' c6_o12_1
  clear c6_o12_1 ac6_o12_1
  have c7_o18_0 : w7.cell? ⟨w6.heap.size, 0, none⟩ = some (.int .i64 (recR x0 x1).1.1) := keepc hb (by simp)
  have c7_o18_1 : w7.cell? ⟨w6.heap.size, 1, none⟩ = some (.slice A13 n14 c15) := keepc hb (by simp)
  have ac7_o6_0 := fun o => keepa o c7_o6_0
  have ac7_o6_1 := fun o => keepa o c7_o6_1
  have ac7_o12_0 := fun o => keepa o c7_o12_0
  have ac7_o12_1 := fun o => keepa o c7_o12_1
  have ac7_o18_0 := fun o => keepa o c7_o18_0
  have ac7_o18_1 := fun o => keepa o c7_o18_1
  have rFo6 := Fo6.out.below hb'; clear Fo6; have Fo6 := Lib.hid rFo6; clear rFo6
  have rFo12 := Fo12.out.below hb'; clear Fo12; have Fo12 := Lib.hid rFo12; clear rFo12
  have rFo18 := Fo18.out.below hb'; clear Fo18; have Fo18 := Lib.hid rFo18; clear rFo18
  have rB := below_chain B.out (by omega) hb'; clear B; have B := Lib.hid rB; clear rB
  clear hb hb'
  go_wp2_with fail
  refine (heldDfa_c _ _ _ _ _ _ (by exact (Fo12.out.rdI)) (by omega) (by omega) (by omega)).mono ?_
  rintro e w8 ⟨rfl, hb⟩
  have hb' : Below w7.heap.size w7 w8 := (by first | (with_reducible exact hb) | (with_reducible exact up1 hb) | (with_reducible exact up2 hb) | (with_reducible exact up3 hb) | (with_reducible exact up4 hb) | (with_reducible exact below_of_drew hb) | (with_reducible exact below_of_drew (up1 hb)))
  have z8 := hb'.size
  have c8_o6_0 : w8.cell? ⟨w1.heap.size, 0, none⟩ = some (.int .i64 (recR x0 x1).1.1) := keepc hb' c7_o6_0
  clear c7_o6_0 ac7_o6_0
  have c8_o6_1 : w8.cell? ⟨w1.heap.size, 1, none⟩ = some (.slice A1 n2 c3) := keepc hb' c7_o6_1
  clear c7_o6_1 ac7_o6_1
  have c8_o12_0 : w8.cell? ⟨w2.heap.size, 0, none⟩ = some (.int .i64 (recR x0 x1).1.1) := keepc hb' c7_o12_0
  clear c7_o12_0 ac7_o12_0
  have c8_o12_1 : w8.cell? ⟨w2.heap.size, 1, none⟩ = some (.slice A7 n8 c9) := keepc hb' c7_o12_1
  clear c7_o12_1 ac7_o12_1
  have c8_o18_0 : w8.cell? ⟨w6.heap.size, 0, none⟩ = some (.int .i64 (recR x0 x1).1.1) := keepc hb' c7_o18_0
  clear c7_o18_0 ac7_o18_0
  have c8_o18_1 : w8.cell? ⟨w6.heap.size, 1, none⟩ = some (.slice A13 n14 c15) := keepc hb' c7_o18_1
  clear c7_o18_1 ac7_o18_1
  have ac8_o6_0 := fun o => keepa o c8_o6_0
  have ac8_o6_1 := fun o => keepa o c8_o6_1
  have ac8_o12_0 := fun o => keepa o c8_o12_0
  have ac8_o12_1 := fun o => keepa o c8_o12_1
  have ac8_o18_0 := fun o => keepa o c8_o18_0
  have ac8_o18_1 := fun o => keepa o c8_o18_1
  have rFo6 := Fo6.out.below hb'; clear Fo6; have Fo6 := Lib.hid rFo6; clear rFo6
  have rFo12 := Fo12.out.below hb'; clear Fo12; have Fo12 := Lib.hid rFo12; clear rFo12
  have rFo18 := Fo18.out.below hb'; clear Fo18; have Fo18 := Lib.hid rFo18; clear rFo18
  have rB := below_chain B.out (by omega) hb'; clear B; have B := Lib.hid rB; clear rB
  clear hb hb'
  go_wp2
  go_ret
  exact ⟨rfl, B.out⟩
end Go.Proofs.Ytbpeagnldgefeaa
