/-
  Parts of the proof, one behind the other: contracts of the functions that the law reaches, and plain laws.
-/
import Derived.Deep.Slices
import Derived.Deep.Strs
import Derived.Lib.SmallJoins
import Derived.Test.YtebjpmmgdkepjaaGreatDoorLot03
import Derived.Test.YtebjpmmgdkepjaaGreatDoorLot30
import Derived.Test.YtebjpmmgdkepjaaGreatDoorLot33
/-
  FnExactEvalByComb returns true for every input: its walk, out of the contracts.
-/
namespace Go.Proofs.YtebjpmmgdkepjaaGreatDoor
open Go.RowKit

set_option maxHeartbeats 4000000 in
set_option maxRecDepth 100000 in
theorem walkEvalByComb (A0 : Option Addr) (n0 : Nat) (c0 : Nat) (xs0 : List (Int × Int × Int)) (A1 : Option Addr) (n1 : Nat) (c1 : Nat) (xs1 : List Int) (x2 : Int) (w : World) (h0 : Rd3 w A0 n0 xs0) (hb0 : n0 ≤ 9223372036854775807) (h1 : RdI w A1 n1 xs1) (hb1 : n1 ≤ 9223372036854775807) (_oo1 : ∀ x ∈ xs1, i64ok x) (_o2 : i64ok x2) (hT : LibS w) :
    Calls Tryz.prog 5 #[.slice A0 n0 c0, .slice A1 n1 c1, .int .i64 x2] w fun e w' => e = .returned (.bool true) ∧ Below w.heap.size w w' := by
  have P0 := Lib.hid (RdU.mk' h0); clear h0
  have P1 := Lib.hid (RdU.mk' h1); clear h1
  have HTB := Lib.hid hT; clear hT
  by_cases hsa1 : 1048576 < n1
  · go_enter Tryz.func5, Tryz.ntmps5
    go_wp2
    go_ret
    exact ⟨rfl, below_size⟩
  go_enter Tryz.func5, Tryz.ntmps5
  go_wp2_with fail
  refine (szFuncS_c _ _ _ _ _ hb0 (by omega) (by omega)).mono ?_
  rintro e w1 ⟨rfl, hb⟩
  have hb' : Below w.heap.size w w1 := (by first | (with_reducible exact hb) | (with_reducible exact up1 hb) | (with_reducible exact up2 hb) | (with_reducible exact up3 hb) | (with_reducible exact up4 hb) | (with_reducible exact below_of_drew hb) | (with_reducible exact below_of_drew (up1 hb)))
  have z1 := hb'.size
  have rP0 := P0.out.below hb'; clear P0; have P0 := Lib.hid rP0; clear rP0
  have rP1 := P1.out.below hb'; clear P1; have P1 := Lib.hid rP1; clear rP1
  have rB := hb'; have B := Lib.hid rB; clear rB
  clear hb hb'
  by_cases hs1 : 1048576 < n0
  · rw [szOf_neg' (by omega)]
    go_wp2
    go_ret
    exact ⟨rfl, B.out⟩
  rw [szOf_pos' (by omega)]
  have hs1' : (0 : Int) ≤ 1048576 - (n0 : Nat) := by omega
  go_wp2_with fail
  refine (toFuncS_c _ _ _ _ _ (by exact (P0.out.1)) (by omega)).mono ?_
  rintro e w2 ⟨rfl, q2, hb⟩
  have hb' : Below w1.heap.size w1 w2 := (by first | (with_reducible exact hb) | (with_reducible exact up1 hb) | (with_reducible exact up2 hb) | (with_reducible exact up3 hb) | (with_reducible exact up4 hb) | (with_reducible exact below_of_drew hb) | (with_reducible exact below_of_drew (up1 hb)))
  have z2 := hb'.size
  have rP0 := P0.out.below hb'; clear P0; have P0 := Lib.hid rP0; clear rP0
  have rP1 := P1.out.below hb'; clear P1; have P1 := Lib.hid rP1; clear rP1
  have rB := below_chain B.out (by omega) hb'; clear B; have B := Lib.hid rB; clear rB
  have Fo11 := Lib.hid q2; clear q2
  clear hb hb'
  go_wp2_with fail
  refine (toInt64S_c _ _ _ _ _ (by exact (P1.out.1)) (by omega)).mono ?_
  rintro e w3 ⟨rfl, q3, hb⟩
  have hb' : Below w2.heap.size w2 w3 := (by first | (with_reducible exact hb) | (with_reducible exact up1 hb) | (with_reducible exact up2 hb) | (with_reducible exact up3 hb) | (with_reducible exact up4 hb) | (with_reducible exact below_of_drew hb) | (with_reducible exact below_of_drew (up1 hb)))
  have z3 := hb'.size
  have rP0 := P0.out.below hb'; clear P0; have P0 := Lib.hid rP0; clear rP0
  have rP1 := P1.out.below hb'; clear P1; have P1 := Lib.hid rP1; clear rP1
  have rFo11 := Fo11.out.below hb'; clear Fo11; have Fo11 := Lib.hid rFo11; clear rFo11
  have rB := below_chain B.out (by omega) hb'; clear B; have B := Lib.hid rB; clear rB
  have Fo12 := Lib.hid q3; clear q3
  clear hb hb'
  go_wp2_with fail
  refine (sEvalByComb_c _ _ _ _ _ _ _ _ _ _ (by exact (Fo11.out.rd)) (by exact (Fo12.out.rdI)) (by omega) (by omega) (Nat.le_refl _)).mono ?_
  rintro e w4 ⟨rfl, hb⟩
  have hb' : Below w3.heap.size w3 w4 := (by first | (with_reducible exact hb) | (with_reducible exact up1 hb) | (with_reducible exact up2 hb) | (with_reducible exact up3 hb) | (with_reducible exact up4 hb) | (with_reducible exact below_of_drew hb) | (with_reducible exact below_of_drew (up1 hb)))
  have z4 := hb'.size
  have rP0 := P0.out.below hb'; clear P0; have P0 := Lib.hid rP0; clear rP0
  have rP1 := P1.out.below hb'; clear P1; have P1 := Lib.hid rP1; clear rP1
  have rFo11 := Fo11.out.below hb'; clear Fo11; have Fo11 := Lib.hid rFo11; clear rFo11
  have rFo12 := Fo12.out.below hb'; clear Fo12; have Fo12 := Lib.hid rFo12; clear rFo12
  have rB := below_chain B.out (by omega) hb'; clear B; have B := Lib.hid rB; clear rB
  clear hb hb'
  go_wp2_with fail
  refine (toFuncS_c _ _ _ _ _ (by exact (P0.out.1)) (by omega)).mono ?_
  rintro e w5 ⟨rfl, q5, hb⟩
  have hb' : Below w4.heap.size w4 w5 := (by first | (with_reducible exact hb) | (with_reducible exact up1 hb) | (with_reducible exact up2 hb) | (with_reducible exact up3 hb) | (with_reducible exact up4 hb) | (with_reducible exact below_of_drew hb) | (with_reducible exact below_of_drew (up1 hb)))
  have z5 := hb'.size
  have rP0 := P0.out.below hb'; clear P0; have P0 := Lib.hid rP0; clear rP0
  have rP1 := P1.out.below hb'; clear P1; have P1 := Lib.hid rP1; clear rP1
  have rFo11 := Fo11.out.below hb'; clear Fo11; have Fo11 := Lib.hid rFo11; clear rFo11
  have rFo12 := Fo12.out.below hb'; clear Fo12; have Fo12 := Lib.hid rFo12; clear rFo12
  have rB := below_chain B.out (by omega) hb'; clear B; have B := Lib.hid rB; clear rB
  have Fo13 := Lib.hid q5; clear q5
  clear hb hb'
  go_wp2_with fail
  refine (toInt64S_c _ _ _ _ _ (by exact (P1.out.1)) (by omega)).mono ?_
  rintro e w6 ⟨rfl, q6, hb⟩
  have hb' : Below w5.heap.size w5 w6 := (by first | (with_reducible exact hb) | (with_reducible exact up1 hb) | (with_reducible exact up2 hb) | (with_reducible exact up3 hb) | (with_reducible exact up4 hb) | (with_reducible exact below_of_drew hb) | (with_reducible exact below_of_drew (up1 hb)))
  have z6 := hb'.size
  have rP0 := P0.out.below hb'; clear P0; have P0 := Lib.hid rP0; clear rP0
  have rP1 := P1.out.below hb'; clear P1; have P1 := Lib.hid rP1; clear rP1
  have rFo11 := Fo11.out.below hb'; clear Fo11; have Fo11 := Lib.hid rFo11; clear rFo11
  have rFo12 := Fo12.out.below hb'; clear Fo12; have Fo12 := Lib.hid rFo12; clear rFo12
  have rFo13 := Fo13.out.below hb'; clear Fo13; have Fo13 := Lib.hid rFo13; clear rFo13
  have rB := below_chain B.out (by omega) hb'; clear B; have B := Lib.hid rB; clear rB
  have Fo14 := Lib.hid q6; clear q6
  clear hb hb'
  go_wp2_with fail
  refine (iEvalByComb_c _ _ _ _ _ _ _ _ _ _ (by exact (Fo13.out.rd)) (by exact (Fo14.out.rdI)) (by omega) (by omega) (Nat.le_refl _) (by exact ((HTB.out.below B.out)))).mono ?_
  rintro e w7 ⟨rfl, hb⟩
  have hb' : Below w6.heap.size w6 w7 := (by first | (with_reducible exact hb) | (with_reducible exact up1 hb) | (with_reducible exact up2 hb) | (with_reducible exact up3 hb) | (with_reducible exact up4 hb) | (with_reducible exact below_of_drew hb) | (with_reducible exact below_of_drew (up1 hb)))
  have z7 := hb'.size
  have rP0 := P0.out.below hb'; clear P0; have P0 := Lib.hid rP0; clear rP0
  have rP1 := P1.out.below hb'; clear P1; have P1 := Lib.hid rP1; clear rP1
  have rFo11 := Fo11.out.below hb'; clear Fo11; have Fo11 := Lib.hid rFo11; clear rFo11
  have rFo12 := Fo12.out.below hb'; clear Fo12; have Fo12 := Lib.hid rFo12; clear rFo12
  have rFo13 := Fo13.out.below hb'; clear Fo13; have Fo13 := Lib.hid rFo13; clear rFo13
  have rFo14 := Fo14.out.below hb'; clear Fo14; have Fo14 := Lib.hid rFo14; clear rFo14
  have rB := below_chain B.out (by omega) hb'; clear B; have B := Lib.hid rB; clear rB
  clear hb hb'
  go_wp2_with fail
  refine (toFuncS_c _ _ _ _ _ (by exact (P0.out.1)) (by omega)).mono ?_
  rintro e w8 ⟨rfl, q8, hb⟩
  have hb' : Below w7.heap.size w7 w8 := (by first | (with_reducible exact hb) | (with_reducible exact up1 hb) | (with_reducible exact up2 hb) | (with_reducible exact up3 hb) | (with_reducible exact up4 hb) | (with_reducible exact below_of_drew hb) | (with_reducible exact below_of_drew (up1 hb)))
  have z8 := hb'.size
  have rP0 := P0.out.below hb'; clear P0; have P0 := Lib.hid rP0; clear rP0
  have rP1 := P1.out.below hb'; clear P1; have P1 := Lib.hid rP1; clear rP1
  have rFo11 := Fo11.out.below hb'; clear Fo11; have Fo11 := Lib.hid rFo11; clear rFo11
  have rFo12 := Fo12.out.below hb'; clear Fo12; have Fo12 := Lib.hid rFo12; clear rFo12
  have rFo13 := Fo13.out.below hb'; clear Fo13; have Fo13 := Lib.hid rFo13; clear rFo13
  have rFo14 := Fo14.out.below hb'; clear Fo14; have Fo14 := Lib.hid rFo14; clear rFo14
  have rB := below_chain B.out (by omega) hb'; clear B; have B := Lib.hid rB; clear rB
  have Fo15 := Lib.hid q8; clear q8
  clear hb hb'
  go_wp2_with fail
  refine (eqFuncS_t _ _ _ _ _ _ _ _ (by exact (Fo13.out.rd)) (by exact (Fo15.out.rd)) (by omega)).mono ?_
  rintro e w9 ⟨rfl, hb⟩
  have hb' : Below w8.heap.size w8 w9 := (by first | (with_reducible exact hb) | (with_reducible exact up1 hb) | (with_reducible exact up2 hb) | (with_reducible exact up3 hb) | (with_reducible exact up4 hb) | (with_reducible exact below_of_drew hb) | (with_reducible exact below_of_drew (up1 hb)))
  have z9 := hb'.size
  have rP0 := P0.out.below hb'; clear P0; have P0 := Lib.hid rP0; clear rP0
  have rP1 := P1.out.below hb'; clear P1; have P1 := Lib.hid rP1; clear rP1
  have rFo11 := Fo11.out.below hb'; clear Fo11; have Fo11 := Lib.hid rFo11; clear rFo11
  have rFo12 := Fo12.out.below hb'; clear Fo12; have Fo12 := Lib.hid rFo12; clear rFo12
  have rFo13 := Fo13.out.below hb'; clear Fo13; have Fo13 := Lib.hid rFo13; clear rFo13
  have rFo14 := Fo14.out.below hb'; clear Fo14; have Fo14 := Lib.hid rFo14; clear rFo14
  have rFo15 := Fo15.out.below hb'; clear Fo15; have Fo15 := Lib.hid rFo15; clear rFo15
  have rB := below_chain B.out (by omega) hb'; clear B; have B := Lib.hid rB; clear rB
  clear hb hb'
  go_wp2_with fail
  refine (toInt64S_c _ _ _ _ _ (by exact (P1.out.1)) (by omega)).mono ?_
  rintro e w10 ⟨rfl, q10, hb⟩
  have hb' : Below w9.heap.size w9 w10 := (by first | (with_reducible exact hb) | (with_reducible exact up1 hb) | (with_reducible exact up2 hb) | (with_reducible exact up3 hb) | (with_reducible exact up4 hb) | (with_reducible exact below_of_drew hb) | (with_reducible exact below_of_drew (up1 hb)))
  have z10 := hb'.size
  have rP0 := P0.out.below hb'; clear P0; have P0 := Lib.hid rP0; clear rP0
  have rP1 := P1.out.below hb'; clear P1; have P1 := Lib.hid rP1; clear rP1
  have rFo11 := Fo11.out.below hb'; clear Fo11; have Fo11 := Lib.hid rFo11; clear rFo11
  have rFo12 := Fo12.out.below hb'; clear Fo12; have Fo12 := Lib.hid rFo12; clear rFo12
  have rFo13 := Fo13.out.below hb'; clear Fo13; have Fo13 := Lib.hid rFo13; clear rFo13
  have rFo14 := Fo14.out.below hb'; clear Fo14; have Fo14 := Lib.hid rFo14; clear rFo14
  have rFo15 := Fo15.out.below hb'; clear Fo15; have Fo15 := Lib.hid rFo15; clear rFo15
  have rB := below_chain B.out (by omega) hb'; clear B; have B := Lib.hid rB; clear rB
  have Fo16 := Lib.hid q10; clear q10
  clear hb hb'
  go_wp2_with fail
  refine (eqInt64S_t _ _ _ _ _ _ _ _ (by exact (Fo14.out.rdI)) (by exact (Fo16.out.rdI)) (by omega)).mono ?_
  rintro e w11 ⟨rfl, hb⟩
  have hb' : Below w10.heap.size w10 w11 := (by first | (with_reducible exact hb) | (with_reducible exact up1 hb) | (with_reducible exact up2 hb) | (with_reducible exact up3 hb) | (with_reducible exact up4 hb) | (with_reducible exact below_of_drew hb) | (with_reducible exact below_of_drew (up1 hb)))
  have z11 := hb'.size
  have rP0 := P0.out.below hb'; clear P0; have P0 := Lib.hid rP0; clear rP0
  have rP1 := P1.out.below hb'; clear P1; have P1 := Lib.hid rP1; clear rP1
  have rFo11 := Fo11.out.below hb'; clear Fo11; have Fo11 := Lib.hid rFo11; clear rFo11
  have rFo12 := Fo12.out.below hb'; clear Fo12; have Fo12 := Lib.hid rFo12; clear rFo12
  have rFo13 := Fo13.out.below hb'; clear Fo13; have Fo13 := Lib.hid rFo13; clear rFo13
  have rFo14 := Fo14.out.below hb'; clear Fo14; have Fo14 := Lib.hid rFo14; clear rFo14
  have rFo15 := Fo15.out.below hb'; clear Fo15; have Fo15 := Lib.hid rFo15; clear rFo15
  have rFo16 := Fo16.out.below hb'; clear Fo16; have Fo16 := Lib.hid rFo16; clear rFo16
  have rB := below_chain B.out (by omega) hb'; clear B; have B := Lib.hid rB; clear rB
  clear hb hb'
  go_wp2
  go_ret
  exact ⟨rfl, B.out⟩
end Go.Proofs.YtebjpmmgdkepjaaGreatDoor
/-
  How the laws' arguments read: slices of whatever elements, structs of numbers and slices.
-/
namespace Go.Proofs.YtebjpmmgdkepjaaGreatDoor
open Go.ChangeShapes Go.WideShapes Go.ChangeAt Go.RowKit Go.Joins

theorem list_of {α : Type} {p : Nat → α → Prop} : ∀ (n : Nat), (∀ i, i < n → ∃ x, p i x) → ∃ xs : List α, xs.length = n ∧ ∀ i x, xs[i]? = some x → p i x
  | 0, _ => ⟨[], rfl, fun i x h => by simp at h⟩
  | n + 1, h => by
    obtain ⟨xs, hl, hx⟩ := list_of n (fun i hi => h i (by omega))
    obtain ⟨x, hp⟩ := h n (by omega)
    refine ⟨xs ++ [x], by simp [hl], fun i y hy => ?_⟩
    rcases Nat.lt_or_ge i n with hi | hi
    · rw [List.getElem?_append_left (by omega)] at hy; exact hx i y hy
    · rw [List.getElem?_append_right (by omega)] at hy
      have : i - xs.length = 0 := by
        have := (List.getElem?_eq_some_iff.1 hy).1
        simp at this; exact this
      rw [this] at hy
      simp at hy; subst hy
      rw [show i = n by omega]; exact hp

section
variable {H : Type} {enc : TypeId × Value → H} {W : World} {fuel base : Nat} {y : DataW H × List MemPlace} {v : Value} {d : DataW H} {p : List MemPlace}

/-- a slice of elements of k cells each -/
theorem open_rows {α : Type} (f : α → List Value) (k : Nat) (hk : 0 < k) (hf : ∀ x, (f x).length = k) (G : α → Prop) {t e : TypeId} (ht : Tryz.prog.underlying t = some (.slice e)) (hc : Tryz.prog.cellsOf e = k)
    (hel : ∀ n cs z, DataW.trod enc Tryz.prog W 0 (fun _ => true) true n e cs = some z → cs.length = k → ∃ x, cs = f x ∧ G x) {c : Value} (h : DataW.trod enc Tryz.prog W 0 (fun _ => true) true fuel t [c] = some y) :
    ∃ (A : Option Addr) (n cp : Nat) (xs : List α), c = .slice A n cp ∧ Rd W A (n * k) (xs.flatMap f) ∧ xs.length = n ∧ n ≤ 9223372036854775807 ∧ ∀ x ∈ xs, G x := by
  rcases Go.Deep.open_slice ht h with ⟨hcs, _⟩ | ⟨a, len, cap, m, n, D, Pl, hcs, _, hl, hm, hmm, _, hx⟩
  · injection hcs with hcs
    exact ⟨none, 0, 0, [], hcs, by rw [Nat.zero_mul]; exact Rd.nil, rfl, by omega, fun x hx => by cases hx⟩
  · injection hcs with hcs
    simp only [if_true] at hmm
    subst hmm
    rw [hc] at hx
    obtain ⟨xs, hxl, hxs⟩ := list_of (p := fun i x => (∀ j, j < k → W.cell? (a.add (i * k + j)) = (f x)[j]?) ∧ G x) len (fun i hi => by
      obtain ⟨cs', h1, h2⟩ := hx i (by omega)
      obtain ⟨_, hlen, hcell⟩ := World.cells?_some h1
      obtain ⟨x, e, hg⟩ := hel _ _ _ h2 hlen
      refine ⟨x, fun j hj => ?_, hg⟩
      rw [← add_add, hcell j hj, e])
    unfold maxLen at hm
    refine ⟨some a, len, m, xs, hcs, ⟨by rw [flatX_len f k hf, hxl], fun h0 => ⟨a, rfl, ?_, fun j u hj => ?_⟩⟩, hxl, by omega, fun x hx => ?_⟩
    · have hl0 : 0 < len := by
        rcases Nat.eq_zero_or_pos len with h | h
        · rw [h, Nat.zero_mul] at h0; omega
        · exact h
      have hx0 : xs[0]? = some xs[0] := List.getElem?_eq_getElem (by omega)
      have := (hxs 0 _ hx0).1 0 hk
      rw [List.getElem?_eq_getElem (by rw [hf]; exact hk)] at this
      have := World.block_lt_of_cell? W _ this
      rwa [block_add] at this
    · have hjl : j < len * k := by
        have := (List.getElem?_eq_some_iff.1 hj).1
        rwa [flatX_len f k hf, hxl] at this
      have hq : j / k < len := Nat.div_lt_of_lt_mul (by rwa [Nat.mul_comm])
      have hxq : xs[j / k]? = some xs[j / k] := List.getElem?_eq_getElem (by omega)
      have hjm : j % k < k := Nat.mod_lt _ hk
      have e : j = j / k * k + j % k := by rw [Nat.mul_comm]; exact (Nat.div_add_mod j k).symm
      rw [e, flatX_at f k hf xs (j / k) (j % k) _ hxq hjm] at hj
      rw [e, (hxs _ _ hxq).1 _ hjm]
      exact hj
    · obtain ⟨i, hi⟩ := List.mem_iff_getElem?.1 hx
      exact (hxs i x hi).2

end
end Go.Proofs.YtebjpmmgdkepjaaGreatDoor
/-
  How a law's argument of type []Func reads.
-/
namespace Go.Proofs.YtebjpmmgdkepjaaGreatDoor
open Go.ChangeShapes Go.WideShapes Go.ChangeAt Go.RowKit Go.Joins

section
variable {H : Type} {enc : TypeId × Value → H} {W : World} {base : Nat} {v : Value} {d : DataW H} {p : List MemPlace}
set_option maxRecDepth 100000 in
theorem open_FuncS (hv : Value.okWide Tryz.prog W .any base 42 v) (h : DataW.Trod enc Tryz.prog W 0 (fun _ => true) true 42 v d p) :
    ∃ A n cp xs, v = .slice A n cp ∧ Rd3 W A n xs ∧ n ≤ 9223372036854775807 := by
  obtain ⟨a0, l0, c0, rfl⟩ := okWide_slice Tryz.underlying42 hv
  obtain ⟨fuel, hf⟩ := h
  have hf' : DataW.trod enc Tryz.prog W 0 (fun _ => true) true fuel 42 [.slice a0 l0 c0] = some (d, p) := by simpa [Value.cells] using hf
  obtain ⟨A, n, cp, xs, e, hr, _, hn, _⟩ := open_rows enc3 3 (by omega) enc3_len (fun _ => True) Tryz.underlying42 (by kernel_rfl) (fun n cs z hz hl => by
    obtain ⟨y0, y1, y2, m, _, _, h0, h1, h2⟩ := Go.Deep.trod_struct3 Tryz.underlying79 hz
    match cs, hl with
    | [c0, c1, c2], _ =>
      have k1 : Tryz.prog.cellsOf 2 = 1 := by kernel_rfl
      simp [k1] at h0 h1 h2
      obtain ⟨a, rfl, _⟩ := trod_I64 h0
      obtain ⟨b, rfl, _⟩ := trod_I64 h1
      obtain ⟨c, rfl, _⟩ := trod_I64 h2
      exact ⟨(a, b, c), rfl, trivial⟩) hf'
  exact ⟨A, n, cp, xs, e, hr, hn⟩
end
end Go.Proofs.YtebjpmmgdkepjaaGreatDoor
