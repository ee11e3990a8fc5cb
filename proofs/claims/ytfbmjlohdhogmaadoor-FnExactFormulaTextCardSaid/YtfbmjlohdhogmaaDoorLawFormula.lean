/-
  The helpers of the laws at Formula: sizes, copies, comparisons, marks.
-/
import Derived.Test.YtfbmjlohdhogmaaDoorSegI
import Derived.Test.YtfbmjlohdhogmaaDoorLawII
import Derived.Test.YtfbmjlohdhogmaaDoorLawI
import Derived.Test.YtfbmjlohdhogmaaDoorLawII
namespace Go.Proofs.YtfbmjlohdhogmaaDoor
open Go.RowKit

/-- the rows of a Formula -/
def sgFormula (A0 : Option Addr) (n0 : Nat) (its0 : List It) (A1 : Option Addr) (n1 : Nat) (its1 : List It) (A2 : Option Addr) (n2 : Nat) (xs2 : List Int) : List Seg := sgII A0 n0 its0 ++ sgII A1 n1 its1 ++ [sgI A2 n2 xs2]
/-- .. and marked from k0 on -/
def mgFormula (A0 : Option Addr) (n0 : Nat) (its0 : List It) (A1 : Option Addr) (n1 : Nat) (its1 : List It) (A2 : Option Addr) (n2 : Nat) (_xs2 : List Int) (k0 : Int) : List Seg := mgII A0 n0 its0 (k0) ++ mgII A1 n1 its1 (k0 + (sumN its0 : Nat)) ++ [⟨A2, n2, (marks (k0 + (sumN its0 : Nat) + (sumN its1 : Nat)) n2).map i64⟩]
theorem szFormula_c (st hd at_ : Int) (A0 : Option Addr) (n0 : Nat) (c0 : Nat) (its0 : List It) (A1 : Option Addr) (n1 : Nat) (c1 : Nat) (its1 : List It) (A2 : Option Addr) (n2 : Nat) (c2 : Nat) (xs2 : List Int) (left : Int) (w : World) (h : RdS w (sgFormula A0 n0 its0 A1 n1 its1 A2 n2 xs2)) (hn0 : n0 ≤ 9223372036854775807) (hn1 : n1 ≤ 9223372036854775807) (hn2 : n2 ≤ 9223372036854775807) (hi0 : ∀ t ∈ its0, t.n ≤ 9223372036854775807) (hi1 : ∀ t ∈ its1, t.n ≤ 9223372036854775807)  (hl : 0 ≤ left) (hl' : left ≤ 1000000000000) :
    Calls Tryd.prog 26 #[.agg #[.int .i64 st, .int .i64 hd, .int .i64 at_, .slice A0 n0 c0, .slice A1 n1 c1, .slice A2 n2 c2], .int .i64 left] w fun e w' => e = .returned (.int .i64 (szOf left (n0 + sumN its0 + n1 + sumN its1 + n2))) ∧ Below w.heap.size w w' := by
  have H := Lib.hid (RdSU.mk' h); clear h
  go_enter Tryd.func26, Tryd.ntmps26
  go_wp2_with fail
  refine (szInt64SS_s A0 n0 c0 its0 _ _ (by exact ((RdSU.rd (H.out.belowB (below_size.alloc (Nat.le_refl _) _))).left).left) hn0 hi0 (by omega) (by omega)).mono ?_
  rintro e w1 ⟨rfl, hb⟩
  obtain ⟨N0, hN0⟩ : ∃ N, n0 + sumN its0 = N := ⟨_, rfl⟩
  rw [hN0]
  have HN0 := Lib.hid hN0; clear hN0
  have y0_1 : w1.cell? ⟨w.heap.size, 4, none⟩ = some (.slice A1 n1 c1) := keepc hb (by simp)
  have y0_2 : w1.cell? ⟨w.heap.size, 5, none⟩ = some (.slice A2 n2 c2) := keepc hb (by simp)
  have B1 := Lib.hid (up1 hb); clear hb
  by_cases g0 : left < ((N0 : Nat) : Int)
  · have HE := Lib.hid (show szOf left (n0 + sumN its0 + n1 + sumN its1 + n2) = -1 from szOf_neg' (by have e0 := HN0.out; omega))
    rw [szOf_neg' g0]
    go_wp2_with fail
    go_ret
    exact ⟨by rw [HE.out]; rfl, B1.out⟩
  rw [szOf_pos' (by omega)]
  go_wp2_with fail
  refine (szInt64SS_s A1 n1 c1 its1 _ _ (by exact ((RdSU.rd (H.out.belowB B1.out)).left).right) hn1 hi1 (by omega) (by omega)).mono ?_
  rintro e w2 ⟨rfl, hb⟩
  obtain ⟨N1, hN1⟩ : ∃ N, n1 + sumN its1 = N := ⟨_, rfl⟩
  rw [hN1]
  have HN1 := Lib.hid hN1; clear hN1
  have y1_2 : w2.cell? ⟨w.heap.size, 5, none⟩ = some (.slice A2 n2 c2) := keepc hb y0_2
  have B2 := Lib.hid (below_chain B1.out B1.out.size hb); clear hb
  by_cases g1 : left - ((N0 : Nat) : Int) < ((N1 : Nat) : Int)
  · have HE := Lib.hid (show szOf left (n0 + sumN its0 + n1 + sumN its1 + n2) = -1 from szOf_neg' (by have e0 := HN0.out; have e1 := HN1.out; omega))
    rw [szOf_neg' g1]
    go_wp2_with fail
    go_ret
    exact ⟨by rw [HE.out]; rfl, B2.out⟩
  rw [szOf_pos' (by omega)]
  go_wp2_with fail
  refine (szInt64S_s A2 n2 c2 xs2 _ _ hn2 (by omega) (by omega)).mono ?_
  rintro e w3 ⟨rfl, hb⟩
  have B3 := Lib.hid (below_chain B2.out B2.out.size hb); clear hb
  by_cases g2 : left - ((N0 : Nat) : Int) - ((N1 : Nat) : Int) < ((n2 : Nat) : Int)
  · have HE := Lib.hid (show szOf left (n0 + sumN its0 + n1 + sumN its1 + n2) = -1 from szOf_neg' (by have e0 := HN0.out; have e1 := HN1.out; omega))
    rw [szOf_neg' g2]
    go_wp2_with fail
    go_ret
    exact ⟨by rw [HE.out]; rfl, B3.out⟩
  rw [szOf_pos' (by omega)]
  have HE := Lib.hid (show szOf left (n0 + sumN its0 + n1 + sumN its1 + n2) = left - ((N0 : Nat) : Int) - ((N1 : Nat) : Int) - ((n2 : Nat) : Int) from (szOf_pos' (by have e0 := HN0.out; have e1 := HN1.out; omega)).trans (by have e0 := HN0.out; have e1 := HN1.out; omega))
  go_wp2_with fail
  go_ret
  exact ⟨by rw [HE.out]; rfl, B3.out⟩
set_option maxHeartbeats 2000000 in
theorem toFormula_c (st hd at_ : Int) (A0 : Option Addr) (n0 : Nat) (c0 : Nat) (its0 : List It) (A1 : Option Addr) (n1 : Nat) (c1 : Nat) (its1 : List It) (A2 : Option Addr) (n2 : Nat) (c2 : Nat) (xs2 : List Int) (w : World) (h : RdS w (sgFormula A0 n0 its0 A1 n1 its1 A2 n2 xs2)) (hn0 : n0 ≤ 1000000000) (hn1 : n1 ≤ 1000000000) (hn2 : n2 ≤ 1000000000) (hi0 : ∀ t ∈ its0, t.n ≤ 1000000000) (hi1 : ∀ t ∈ its1, t.n ≤ 1000000000)  :
    Calls Tryd.prog 28 #[.agg #[.int .i64 st, .int .i64 hd, .int .i64 at_, .slice A0 n0 c0, .slice A1 n1 c1, .slice A2 n2 c2]] w fun e w' => ∃ g0 js0 g1 js1 g2, e = .returned (.agg #[.int .i64 st, .int .i64 hd, .int .i64 at_, .slice (some ⟨g0, 0, none⟩) n0 n0, .slice (some ⟨g1, 0, none⟩) n1 n1, .slice (some ⟨g2, 0, none⟩) n2 n2]) ∧ js0.map It.xs = its0.map It.xs ∧ js1.map It.xs = its1.map It.xs ∧ WrS w' w.heap.size w'.heap.size (sgFormula (some ⟨g0, 0, none⟩) n0 js0 (some ⟨g1, 0, none⟩) n1 js1 (some ⟨g2, 0, none⟩) n2 xs2) ∧ Below w.heap.size w w' := by
  have H := Lib.hid (RdSU.mk' h); clear h
  go_enter Tryd.func28, Tryd.ntmps28
  go_wp2_with fail
  have B := Lib.hid (show Blk (((w.alloc (.cells #[.int .i64 st, .int .i64 hd, .int .i64 at_, .slice A0 n0 c0, .slice A1 n1 c1, .slice A2 n2 c2] 58)).alloc (.cells #[.int .i64 0, .int .i64 0, .int .i64 0, .slice none 0 0, .slice none 0 0, .slice none 0 0] 61)).alloc (.cells #[.int .i64 st, .int .i64 hd, .int .i64 at_, .slice none 0 0, .slice none 0 0, .slice none 0 0] 61)) w.heap.size 58 #[.int .i64 st, .int .i64 hd, .int .i64 at_, .slice A0 n0 c0, .slice A1 n1 c1, .slice A2 n2 c2] from ((Blk.new w _ _).alloc _).alloc _)
  have R := Lib.hid (show Blk (((w.alloc (.cells #[.int .i64 st, .int .i64 hd, .int .i64 at_, .slice A0 n0 c0, .slice A1 n1 c1, .slice A2 n2 c2] 58)).alloc (.cells #[.int .i64 0, .int .i64 0, .int .i64 0, .slice none 0 0, .slice none 0 0, .slice none 0 0] 61)).alloc (.cells #[.int .i64 st, .int .i64 hd, .int .i64 at_, .slice none 0 0, .slice none 0 0, .slice none 0 0] 61)) (w.heap.size + 1) 61 #[.int .i64 0, .int .i64 0, .int .i64 0, .slice none 0 0, .slice none 0 0, .slice none 0 0] by
    have := (Blk.new (w.alloc (.cells #[.int .i64 st, .int .i64 hd, .int .i64 at_, .slice A0 n0 c0, .slice A1 n1 c1, .slice A2 n2 c2] 58)) 61 #[.int .i64 0, .int .i64 0, .int .i64 0, .slice none 0 0, .slice none 0 0, .slice none 0 0]).alloc (.cells #[.int .i64 st, .int .i64 hd, .int .i64 at_, .slice none 0 0, .slice none 0 0, .slice none 0 0] 61)
    rw [World.size_alloc] at this
    exact this)
  have O := Lib.hid (show Blk (((w.alloc (.cells #[.int .i64 st, .int .i64 hd, .int .i64 at_, .slice A0 n0 c0, .slice A1 n1 c1, .slice A2 n2 c2] 58)).alloc (.cells #[.int .i64 0, .int .i64 0, .int .i64 0, .slice none 0 0, .slice none 0 0, .slice none 0 0] 61)).alloc (.cells #[.int .i64 st, .int .i64 hd, .int .i64 at_, .slice none 0 0, .slice none 0 0, .slice none 0 0] 61)) (w.heap.size + 1 + 1) 61 #[.int .i64 st, .int .i64 hd, .int .i64 at_, .slice none 0 0, .slice none 0 0, .slice none 0 0] by
    have := Blk.new ((w.alloc (.cells #[.int .i64 st, .int .i64 hd, .int .i64 at_, .slice A0 n0 c0, .slice A1 n1 c1, .slice A2 n2 c2] 58)).alloc (.cells #[.int .i64 0, .int .i64 0, .int .i64 0, .slice none 0 0, .slice none 0 0, .slice none 0 0] 61)) 61 #[.int .i64 st, .int .i64 hd, .int .i64 at_, .slice none 0 0, .slice none 0 0, .slice none 0 0]
    rw [World.size_alloc, World.size_alloc] at this
    exact this)
  have T := Lib.hid (show Below w.heap.size w (((w.alloc (.cells #[.int .i64 st, .int .i64 hd, .int .i64 at_, .slice A0 n0 c0, .slice A1 n1 c1, .slice A2 n2 c2] 58)).alloc (.cells #[.int .i64 0, .int .i64 0, .int .i64 0, .slice none 0 0, .slice none 0 0, .slice none 0 0] 61)).alloc (.cells #[.int .i64 st, .int .i64 hd, .int .i64 at_, .slice none 0 0, .slice none 0 0, .slice none 0 0] 61)) from (by have hzz := ((below_size : Below w.heap.size w w)).size; repeat' (first | (with_reducible exact (below_size : Below w.heap.size w w)) | (with_reducible refine Below.alloc ?_ ?_ _) | (with_reducible refine Below.setCell ?_ ?_ _) | (with_reducible refine below_drew ?_) | omega | (simp; done) | (simp; omega))))
  have hW : w.heap.size + 1 + 1 < (((w.alloc (.cells #[.int .i64 st, .int .i64 hd, .int .i64 at_, .slice A0 n0 c0, .slice A1 n1 c1, .slice A2 n2 c2] 58)).alloc (.cells #[.int .i64 0, .int .i64 0, .int .i64 0, .slice none 0 0, .slice none 0 0, .slice none 0 0] 61)).alloc (.cells #[.int .i64 st, .int .i64 hd, .int .i64 at_, .slice none 0 0, .slice none 0 0, .slice none 0 0] 61)).heap.size := by simp
  refine (toInt64SS_s A0 n0 c0 its0 _ (by exact ((RdSU.rd (H.out.belowB T.out)).left).left) hn0 hi0).mono ?_
  rintro e w1 ⟨g0, js0, rfl, hx0, hw, hb⟩
  have rB := B.out.keep hb; have rR := R.out.keep hb; have rO := O.out.keep hb; have rT := below_chain T.out T.out.size hb
  have hw1 := hb.size
  simp only [World.size_alloc] at hw1 hw
  have hW : w.heap.size + 1 + 1 + 1 ≤ w1.heap.size := by omega
  clear B R O T
  have B := Lib.hid rB; have R := Lib.hid rR; have O := Lib.hid rO; have T := Lib.hid rT; have Q0 := Lib.hid hw
  clear rB rR rO rT hw hb
  have oc3 := O.out.cell 3; have of3 := O.out.frozen 3
  simp at oc3
  have oc4 := O.out.cell 4; have of4 := O.out.frozen 4
  simp at oc4
  have oc5 := O.out.cell 5; have of5 := O.out.frozen 5
  simp at oc5
  have bc4 := B.out.cell 4
  simp at bc4
  have bc5 := B.out.cell 5
  simp at bc5
  go_wp2_with fail
  clear oc3 of3
  clear oc4 of4
  clear oc5 of5
  clear bc4
  clear bc5
  have rB := B.out.far (p := ⟨w.heap.size + 1 + 1, 3, none⟩) (by simp <;> omega) (.slice (some ⟨g0, 0, none⟩) n0 n0)
  have rR := R.out.far (p := ⟨w.heap.size + 1 + 1, 3, none⟩) (by simp <;> omega) (.slice (some ⟨g0, 0, none⟩) n0 n0)
  have rO := O.out.set_ 3 (.slice (some ⟨g0, 0, none⟩) n0 n0)
  simp at rO
  have rT := T.out.setCell (p := ⟨w.heap.size + 1 + 1, 3, none⟩) (by simp; omega) (.slice (some ⟨g0, 0, none⟩) n0 n0)
  have rQ0 := Q0.out.set_far (p := ⟨w.heap.size + 1 + 1, 3, none⟩) (.inl (by simp <;> omega)) (.slice (some ⟨g0, 0, none⟩) n0 n0)
  clear B R O T Q0
  have B := Lib.hid rB; have R := Lib.hid rR; have O := Lib.hid rO; have T := Lib.hid rT; have Q0 := Lib.hid rQ0
  clear rB rR rO rT rQ0
  refine (toInt64SS_s A1 n1 c1 its1 _ (by exact ((RdSU.rd (H.out.belowB T.out)).left).right) hn1 hi1).mono ?_
  rintro e w2 ⟨g1, js1, rfl, hx1, hw, hb⟩
  have rB := B.out.keep hb; have rR := R.out.keep hb; have rO := O.out.keep hb; have rT := below_chain T.out T.out.size hb
  have rQ0 := Q0.out.below hb
  have hw2 := hb.size
  simp only [World.size_setCell] at hw2 hw
  clear B R O T Q0
  have B := Lib.hid rB; have R := Lib.hid rR; have O := Lib.hid rO; have T := Lib.hid rT; have Q1 := Lib.hid hw; have Q0 := Lib.hid rQ0
  clear rB rR rO rT hw hb rQ0
  have oc4 := O.out.cell 4; have of4 := O.out.frozen 4
  simp at oc4
  have oc5 := O.out.cell 5; have of5 := O.out.frozen 5
  simp at oc5
  have bc5 := B.out.cell 5
  simp at bc5
  go_wp2_with fail
  clear oc4 of4
  clear oc5 of5
  clear bc5
  have rB := B.out.far (p := ⟨w.heap.size + 1 + 1, 4, none⟩) (by simp <;> omega) (.slice (some ⟨g1, 0, none⟩) n1 n1)
  have rR := R.out.far (p := ⟨w.heap.size + 1 + 1, 4, none⟩) (by simp <;> omega) (.slice (some ⟨g1, 0, none⟩) n1 n1)
  have rO := O.out.set_ 4 (.slice (some ⟨g1, 0, none⟩) n1 n1)
  simp at rO
  have rT := T.out.setCell (p := ⟨w.heap.size + 1 + 1, 4, none⟩) (by simp; omega) (.slice (some ⟨g1, 0, none⟩) n1 n1)
  have rQ0 := Q0.out.set_far (p := ⟨w.heap.size + 1 + 1, 4, none⟩) (.inl (by simp <;> omega)) (.slice (some ⟨g1, 0, none⟩) n1 n1)
  have rQ1 := Q1.out.set_far (p := ⟨w.heap.size + 1 + 1, 4, none⟩) (.inl (by simp <;> omega)) (.slice (some ⟨g1, 0, none⟩) n1 n1)
  clear B R O T Q0 Q1
  have B := Lib.hid rB; have R := Lib.hid rR; have O := Lib.hid rO; have T := Lib.hid rT; have Q0 := Lib.hid rQ0; have Q1 := Lib.hid rQ1
  clear rB rR rO rT rQ0 rQ1
  refine (toInt64S_s A2 n2 c2 xs2 _ (by exact (RdSU.rd (H.out.belowB T.out)).right) hn2).mono ?_
  rintro e w3 ⟨g2, rfl, hw, hb⟩
  have rB := B.out.keep hb; have rR := R.out.keep hb; have rO := O.out.keep hb; have rT := below_chain T.out T.out.size hb
  have rQ0 := Q0.out.below hb
  have rQ1 := Q1.out.below hb
  have hw3 := hb.size
  simp only [World.size_setCell] at hw3 hw
  clear B R O T Q0 Q1
  have B := Lib.hid rB; have R := Lib.hid rR; have O := Lib.hid rO; have T := Lib.hid rT; have Q2 := Lib.hid hw; have Q0 := Lib.hid rQ0; have Q1 := Lib.hid rQ1
  clear rB rR rO rT hw hb rQ0 rQ1
  have oc0 := O.out.cell 0; have of0 := O.out.frozen 0
  simp at oc0
  have oc1 := O.out.cell 1; have of1 := O.out.frozen 1
  simp at oc1
  have oc2 := O.out.cell 2; have of2 := O.out.frozen 2
  simp at oc2
  have oc3 := O.out.cell 3; have of3 := O.out.frozen 3
  simp at oc3
  have oc4 := O.out.cell 4; have of4 := O.out.frozen 4
  simp at oc4
  have oc5 := O.out.cell 5; have of5 := O.out.frozen 5
  simp at oc5
  have rc0 := R.out.cell 0; have rf0 := R.out.frozen 0
  simp at rc0
  have rc1 := R.out.cell 1; have rf1 := R.out.frozen 1
  simp at rc1
  have rc2 := R.out.cell 2; have rf2 := R.out.frozen 2
  simp at rc2
  have rc3 := R.out.cell 3; have rf3 := R.out.frozen 3
  simp at rc3
  have rc4 := R.out.cell 4; have rf4 := R.out.frozen 4
  simp at rc4
  have rc5 := R.out.cell 5; have rf5 := R.out.frozen 5
  simp at rc5
  go_wp2_with fail
  refine bodyPost_ret (v := .agg #[.int .i64 st, .int .i64 hd, .int .i64 at_, .slice (some ⟨g0, 0, none⟩) n0 n0, .slice (some ⟨g1, 0, none⟩) n1 n1, .slice (some ⟨g2, 0, none⟩) n2 n2]) (by simp [results, Tryd.results28, go_sem, rc0, rc1, rc2, rc3, rc4, rc5]) rfl ⟨g0, js0, g1, js1, g2, rfl, hx0, hx1, ?_, (by have hzz := (T.out).size; repeat' (first | (with_reducible exact T.out) | (with_reducible refine Below.alloc ?_ ?_ _) | (with_reducible refine Below.setCell ?_ ?_ _) | (with_reducible refine below_drew ?_) | omega | (simp; done) | (simp; omega)))⟩
  exact ((((((((((Q0.out.set_far (.inl (by simp <;> omega)) _).set_far (.inl (by simp <;> omega)) _).set_far (.inl (by simp <;> omega)) _).set_far (.inl (by simp <;> omega)) _).set_far (.inl (by simp <;> omega)) _).set_far (.inl (by simp <;> omega)) _).set_far (.inl (by simp <;> omega)) _)).append ((((((((Q1.out.set_far (.inl (by simp <;> omega)) _).set_far (.inl (by simp <;> omega)) _).set_far (.inl (by simp <;> omega)) _).set_far (.inl (by simp <;> omega)) _).set_far (.inl (by simp <;> omega)) _).set_far (.inl (by simp <;> omega)) _).set_far (.inl (by simp <;> omega)) _)) (by omega) (by omega)).append ((((((((Q2.out.set_far (.inl (by simp <;> omega)) _).set_far (.inl (by simp <;> omega)) _).set_far (.inl (by simp <;> omega)) _).set_far (.inl (by simp <;> omega)) _).set_far (.inl (by simp <;> omega)) _).set_far (.inl (by simp <;> omega)) _).set_far (.inl (by simp <;> omega)) _)) (by omega) (by omega)).wider (by omega) (by simp)
set_option maxHeartbeats 2000000 in
theorem eqFormula_t (st hd at_ : Int) (A0 : Option Addr) (n0 : Nat) (c0 : Nat) (its0 : List It) (A1 : Option Addr) (n1 : Nat) (c1 : Nat) (its1 : List It) (A2 : Option Addr) (n2 : Nat) (c2 : Nat) (xs2 : List Int) (A0' : Option Addr) (n0' : Nat) (c0' : Nat) (its0' : List It) (A1' : Option Addr) (n1' : Nat) (c1' : Nat) (its1' : List It) (A2' : Option Addr) (n2' : Nat) (c2' : Nat) (w : World) (h : RdS w (sgFormula A0 n0 its0 A1 n1 its1 A2 n2 xs2)) (h' : RdS w (sgFormula A0' n0' its0' A1' n1' its1' A2' n2' xs2)) (hn0 : n0 ≤ 1000000000) (hn1 : n1 ≤ 1000000000) (hn2 : n2 ≤ 1000000000) (hi0 : ∀ t ∈ its0, t.n ≤ 1000000000) (he0 : its0.map It.xs = its0'.map It.xs) (hi1 : ∀ t ∈ its1, t.n ≤ 1000000000) (he1 : its1.map It.xs = its1'.map It.xs)  :
    Calls Tryd.prog 30 #[.agg #[.int .i64 st, .int .i64 hd, .int .i64 at_, .slice A0 n0 c0, .slice A1 n1 c1, .slice A2 n2 c2], .agg #[.int .i64 st, .int .i64 hd, .int .i64 at_, .slice A0' n0' c0', .slice A1' n1' c1', .slice A2' n2' c2']] w fun e w' => e = .returned (.bool true) ∧ Below w.heap.size w w' := by
  have H := Lib.hid h; have H' := Lib.hid h'; clear h h'
  have g0 : (st != st) = false := by simp
  have g1 : (hd != hd) = false := by simp
  have g2 : (at_ != at_) = false := by simp
  go_enter Tryd.func30, Tryd.ntmps30
  go_wp2_with fail
  have T := Lib.hid (show Below w.heap.size w ((w.alloc (.cells #[.int .i64 st, .int .i64 hd, .int .i64 at_, .slice A0 n0 c0, .slice A1 n1 c1, .slice A2 n2 c2] 61)).alloc (.cells #[.int .i64 st, .int .i64 hd, .int .i64 at_, .slice A0' n0' c0', .slice A1' n1' c1', .slice A2' n2' c2'] 61)) from (below_size.alloc (Nat.le_refl _) _).alloc (by simp) _)
  refine (eqInt64SS_s A0 n0 c0 its0 A0' n0' c0' its0' _ (by exact (((RdS.below H.out T.out)).left).left) (by exact (((RdS.below H'.out T.out)).left).left) hn0 hi0 he0).mono ?_
  rintro e w1 ⟨rfl, hb⟩
  have y0_1 : w1.cell? ⟨w.heap.size, 4, none⟩ = some (.slice A1 n1 c1) := keepc hb (by simp)
  have z0_1 : w1.cell? ⟨w.heap.size + 1, 4, none⟩ = some (.slice A1' n1' c1') := keepc hb (by simp)
  have y0_2 : w1.cell? ⟨w.heap.size, 5, none⟩ = some (.slice A2 n2 c2) := keepc hb (by simp)
  have z0_2 : w1.cell? ⟨w.heap.size + 1, 5, none⟩ = some (.slice A2' n2' c2') := keepc hb (by simp)
  have rT := below_chain T.out T.out.size hb; clear T hb; have T := Lib.hid rT; clear rT
  go_wp2_with fail
  refine (eqInt64SS_s A1 n1 c1 its1 A1' n1' c1' its1' _ (by exact (((RdS.below H.out T.out)).left).right) (by exact (((RdS.below H'.out T.out)).left).right) hn1 hi1 he1).mono ?_
  rintro e w2 ⟨rfl, hb⟩
  have y1_2 : w2.cell? ⟨w.heap.size, 5, none⟩ = some (.slice A2 n2 c2) := keepc hb y0_2
  have z1_2 : w2.cell? ⟨w.heap.size + 1, 5, none⟩ = some (.slice A2' n2' c2') := keepc hb z0_2
  have rT := below_chain T.out T.out.size hb; clear T hb; have T := Lib.hid rT; clear rT
  go_wp2_with fail
  refine (eqInt64S_s A2 n2 c2 xs2 A2' n2' c2' _ (by exact ((RdS.below H.out T.out)).right) (by exact ((RdS.below H'.out T.out)).right) hn2).mono ?_
  rintro e w3 ⟨rfl, hb⟩
  have rT := below_chain T.out T.out.size hb; clear T hb; have T := Lib.hid rT; clear rT
  go_wp2_with fail
  go_ret
  exact ⟨rfl, T.out⟩
end Go.Proofs.YtfbmjlohdhogmaaDoor
