/-
  The helpers of the laws at Config: sizes, copies, comparisons, marks.
-/
import Derived.Test.YtcbcjhfeidkeaaaSegI
import Derived.Test.YtcbcjhfeidkeaaaLawII
import Derived.Test.YtcbcjhfeidkeaaaLawI
namespace Go.Proofs.Ytcbcjhfeidkeaaa
open Go.RowKit

/-- the rows of a Config -/
def sgConfig (A0 : Option Addr) (n0 : Nat) (xs0 : List Int) (A1 : Option Addr) (n1 : Nat) (xs1 : List Int) : List Seg := [sgI A0 n0 xs0] ++ [sgI A1 n1 xs1]
/-- .. and marked from k0 on -/
def mgConfig (A0 : Option Addr) (n0 : Nat) (_xs0 : List Int) (A1 : Option Addr) (n1 : Nat) (_xs1 : List Int) (k0 : Int) : List Seg := [⟨A0, n0, (marks (k0) n0).map i64⟩] ++ [⟨A1, n1, (marks (k0 + (n0 : Nat)) n1).map i64⟩]
theorem szConfig_c (st : Int) (A0 : Option Addr) (n0 : Nat) (c0 : Nat) (xs0 : List Int) (A1 : Option Addr) (n1 : Nat) (c1 : Nat) (xs1 : List Int) (left : Int) (w : World) (hn0 : n0 ≤ 9223372036854775807) (hn1 : n1 ≤ 9223372036854775807)   (hl : 0 ≤ left) (hl' : left ≤ 1000000000000) :
    Calls Try.prog 7 #[.agg #[.int .i64 st, .slice A0 n0 c0, .slice A1 n1 c1], .int .i64 left] w fun e w' => e = .returned (.int .i64 (szOf left (n0 + n1))) ∧ Below w.heap.size w w' := by
  go_enter Try.func7, Try.ntmps7
  go_wp2_with fail
  refine (szInt64S_s A0 n0 c0 xs0 _ _ hn0 (by omega) (by omega)).mono ?_
  rintro e w1 ⟨rfl, hb⟩
  have y0_1 : w1.cell? ⟨w.heap.size, 2, none⟩ = some (.slice A1 n1 c1) := keepc hb (by simp)
  have B1 := Lib.hid (up1 hb); clear hb
  by_cases g0 : left < ((n0 : Nat) : Int)
  · have HE := Lib.hid (show szOf left (n0 + n1) = -1 from szOf_neg' (by omega))
    rw [szOf_neg' g0]
    go_wp2_with fail
    go_ret
    exact ⟨by rw [HE.out]; rfl, B1.out⟩
  rw [szOf_pos' (by omega)]
  go_wp2_with fail
  refine (szInt64S_s A1 n1 c1 xs1 _ _ hn1 (by omega) (by omega)).mono ?_
  rintro e w2 ⟨rfl, hb⟩
  have B2 := Lib.hid (below_chain B1.out B1.out.size hb); clear hb
  by_cases g1 : left - ((n0 : Nat) : Int) < ((n1 : Nat) : Int)
  · have HE := Lib.hid (show szOf left (n0 + n1) = -1 from szOf_neg' (by omega))
    rw [szOf_neg' g1]
    go_wp2_with fail
    go_ret
    exact ⟨by rw [HE.out]; rfl, B2.out⟩
  rw [szOf_pos' (by omega)]
  have HE := Lib.hid (show szOf left (n0 + n1) = left - ((n0 : Nat) : Int) - ((n1 : Nat) : Int) from (szOf_pos' (by omega)).trans (by omega))
  go_wp2_with fail
  go_ret
  exact ⟨by rw [HE.out]; rfl, B2.out⟩
set_option maxHeartbeats 2000000 in
theorem toConfig_c (st : Int) (A0 : Option Addr) (n0 : Nat) (c0 : Nat) (xs0 : List Int) (A1 : Option Addr) (n1 : Nat) (c1 : Nat) (xs1 : List Int) (w : World) (h : RdS w (sgConfig A0 n0 xs0 A1 n1 xs1)) (hn0 : n0 ≤ 1000000000) (hn1 : n1 ≤ 1000000000)   :
    Calls Try.prog 10 #[.agg #[.int .i64 st, .slice A0 n0 c0, .slice A1 n1 c1]] w fun e w' => ∃ g0 g1, e = .returned (.agg #[.int .i64 st, .slice (some ⟨g0, 0, none⟩) n0 n0, .slice (some ⟨g1, 0, none⟩) n1 n1]) ∧ WrS w' w.heap.size w'.heap.size (sgConfig (some ⟨g0, 0, none⟩) n0 xs0 (some ⟨g1, 0, none⟩) n1 xs1) ∧ Below w.heap.size w w' := by
  have H := Lib.hid (RdSU.mk' h); clear h
  go_enter Try.func10, Try.ntmps10
  go_wp2_with fail
  have B := Lib.hid (show Blk (((w.alloc (.cells #[.int .i64 st, .slice A0 n0 c0, .slice A1 n1 c1] 27)).alloc (.cells #[.int .i64 0, .slice none 0 0, .slice none 0 0] 30)).alloc (.cells #[.int .i64 st, .slice none 0 0, .slice none 0 0] 30)) w.heap.size 27 #[.int .i64 st, .slice A0 n0 c0, .slice A1 n1 c1] from ((Blk.new w _ _).alloc _).alloc _)
  have R := Lib.hid (show Blk (((w.alloc (.cells #[.int .i64 st, .slice A0 n0 c0, .slice A1 n1 c1] 27)).alloc (.cells #[.int .i64 0, .slice none 0 0, .slice none 0 0] 30)).alloc (.cells #[.int .i64 st, .slice none 0 0, .slice none 0 0] 30)) (w.heap.size + 1) 30 #[.int .i64 0, .slice none 0 0, .slice none 0 0] by
    have := (Blk.new (w.alloc (.cells #[.int .i64 st, .slice A0 n0 c0, .slice A1 n1 c1] 27)) 30 #[.int .i64 0, .slice none 0 0, .slice none 0 0]).alloc (.cells #[.int .i64 st, .slice none 0 0, .slice none 0 0] 30)
    rw [World.size_alloc] at this
    exact this)
  have O := Lib.hid (show Blk (((w.alloc (.cells #[.int .i64 st, .slice A0 n0 c0, .slice A1 n1 c1] 27)).alloc (.cells #[.int .i64 0, .slice none 0 0, .slice none 0 0] 30)).alloc (.cells #[.int .i64 st, .slice none 0 0, .slice none 0 0] 30)) (w.heap.size + 1 + 1) 30 #[.int .i64 st, .slice none 0 0, .slice none 0 0] by
    have := Blk.new ((w.alloc (.cells #[.int .i64 st, .slice A0 n0 c0, .slice A1 n1 c1] 27)).alloc (.cells #[.int .i64 0, .slice none 0 0, .slice none 0 0] 30)) 30 #[.int .i64 st, .slice none 0 0, .slice none 0 0]
    rw [World.size_alloc, World.size_alloc] at this
    exact this)
  have T := Lib.hid (show Below w.heap.size w (((w.alloc (.cells #[.int .i64 st, .slice A0 n0 c0, .slice A1 n1 c1] 27)).alloc (.cells #[.int .i64 0, .slice none 0 0, .slice none 0 0] 30)).alloc (.cells #[.int .i64 st, .slice none 0 0, .slice none 0 0] 30)) from (by have hzz := ((below_size : Below w.heap.size w w)).size; repeat' (first | (with_reducible exact (below_size : Below w.heap.size w w)) | (with_reducible refine Below.alloc ?_ ?_ _) | (with_reducible refine Below.setCell ?_ ?_ _) | (with_reducible refine below_drew ?_) | omega | (simp; done) | (simp; omega))))
  have hW : w.heap.size + 1 + 1 < (((w.alloc (.cells #[.int .i64 st, .slice A0 n0 c0, .slice A1 n1 c1] 27)).alloc (.cells #[.int .i64 0, .slice none 0 0, .slice none 0 0] 30)).alloc (.cells #[.int .i64 st, .slice none 0 0, .slice none 0 0] 30)).heap.size := by simp
  refine (toInt64S_s A0 n0 c0 xs0 _ (by exact (RdSU.rd (H.out.belowB T.out)).left) hn0).mono ?_
  rintro e w1 ⟨g0, rfl, hw, hb⟩
  have rB := B.out.keep hb; have rR := R.out.keep hb; have rO := O.out.keep hb; have rT := below_chain T.out T.out.size hb
  have hw1 := hb.size
  simp only [World.size_alloc] at hw1 hw
  have hW : w.heap.size + 1 + 1 + 1 ≤ w1.heap.size := by omega
  clear B R O T
  have B := Lib.hid rB; have R := Lib.hid rR; have O := Lib.hid rO; have T := Lib.hid rT; have Q0 := Lib.hid hw
  clear rB rR rO rT hw hb
  have oc1 := O.out.cell 1; have of1 := O.out.frozen 1
  simp at oc1
  have oc2 := O.out.cell 2; have of2 := O.out.frozen 2
  simp at oc2
  have bc2 := B.out.cell 2
  simp at bc2
  go_wp2_with fail
  clear oc1 of1
  clear oc2 of2
  clear bc2
  have rB := B.out.far (p := ⟨w.heap.size + 1 + 1, 1, none⟩) (by simp <;> omega) (.slice (some ⟨g0, 0, none⟩) n0 n0)
  have rR := R.out.far (p := ⟨w.heap.size + 1 + 1, 1, none⟩) (by simp <;> omega) (.slice (some ⟨g0, 0, none⟩) n0 n0)
  have rO := O.out.set_ 1 (.slice (some ⟨g0, 0, none⟩) n0 n0)
  simp at rO
  have rT := T.out.setCell (p := ⟨w.heap.size + 1 + 1, 1, none⟩) (by simp; omega) (.slice (some ⟨g0, 0, none⟩) n0 n0)
  have rQ0 := Q0.out.set_far (p := ⟨w.heap.size + 1 + 1, 1, none⟩) (.inl (by simp <;> omega)) (.slice (some ⟨g0, 0, none⟩) n0 n0)
  clear B R O T Q0
  have B := Lib.hid rB; have R := Lib.hid rR; have O := Lib.hid rO; have T := Lib.hid rT; have Q0 := Lib.hid rQ0
  clear rB rR rO rT rQ0
  refine (toInt64S_s A1 n1 c1 xs1 _ (by exact (RdSU.rd (H.out.belowB T.out)).right) hn1).mono ?_
  rintro e w2 ⟨g1, rfl, hw, hb⟩
  have rB := B.out.keep hb; have rR := R.out.keep hb; have rO := O.out.keep hb; have rT := below_chain T.out T.out.size hb
  have rQ0 := Q0.out.below hb
  have hw2 := hb.size
  simp only [World.size_setCell] at hw2 hw
  clear B R O T Q0
  have B := Lib.hid rB; have R := Lib.hid rR; have O := Lib.hid rO; have T := Lib.hid rT; have Q1 := Lib.hid hw; have Q0 := Lib.hid rQ0
  clear rB rR rO rT hw hb rQ0
  have oc0 := O.out.cell 0; have of0 := O.out.frozen 0
  simp at oc0
  have oc1 := O.out.cell 1; have of1 := O.out.frozen 1
  simp at oc1
  have oc2 := O.out.cell 2; have of2 := O.out.frozen 2
  simp at oc2
  have rc0 := R.out.cell 0; have rf0 := R.out.frozen 0
  simp at rc0
  have rc1 := R.out.cell 1; have rf1 := R.out.frozen 1
  simp at rc1
  have rc2 := R.out.cell 2; have rf2 := R.out.frozen 2
  simp at rc2
  go_wp2_with fail
  refine bodyPost_ret (v := .agg #[.int .i64 st, .slice (some ⟨g0, 0, none⟩) n0 n0, .slice (some ⟨g1, 0, none⟩) n1 n1]) (by simp [results, Try.results10, go_sem, rc0, rc1, rc2]) rfl ⟨g0, g1, rfl, ?_, (by have hzz := (T.out).size; repeat' (first | (with_reducible exact T.out) | (with_reducible refine Below.alloc ?_ ?_ _) | (with_reducible refine Below.setCell ?_ ?_ _) | (with_reducible refine below_drew ?_) | omega | (simp; done) | (simp; omega)))⟩
  exact ((((((Q0.out.set_far (.inl (by simp <;> omega)) _).set_far (.inl (by simp <;> omega)) _).set_far (.inl (by simp <;> omega)) _).set_far (.inl (by simp <;> omega)) _)).append (((((Q1.out.set_far (.inl (by simp <;> omega)) _).set_far (.inl (by simp <;> omega)) _).set_far (.inl (by simp <;> omega)) _).set_far (.inl (by simp <;> omega)) _)) (by omega) (by omega)).wider (by omega) (by simp)
set_option maxHeartbeats 2000000 in
theorem eqConfig_t (st : Int) (A0 : Option Addr) (n0 : Nat) (c0 : Nat) (xs0 : List Int) (A1 : Option Addr) (n1 : Nat) (c1 : Nat) (xs1 : List Int) (A0' : Option Addr) (n0' : Nat) (c0' : Nat) (A1' : Option Addr) (n1' : Nat) (c1' : Nat) (w : World) (h : RdS w (sgConfig A0 n0 xs0 A1 n1 xs1)) (h' : RdS w (sgConfig A0' n0' xs0 A1' n1' xs1)) (hn0 : n0 ≤ 1000000000) (hn1 : n1 ≤ 1000000000)   :
    Calls Try.prog 12 #[.agg #[.int .i64 st, .slice A0 n0 c0, .slice A1 n1 c1], .agg #[.int .i64 st, .slice A0' n0' c0', .slice A1' n1' c1']] w fun e w' => e = .returned (.bool true) ∧ Below w.heap.size w w' := by
  have H := Lib.hid h; have H' := Lib.hid h'; clear h h'
  have g0 : (st != st) = false := by simp
  go_enter Try.func12, Try.ntmps12
  go_wp2_with fail
  have T := Lib.hid (show Below w.heap.size w ((w.alloc (.cells #[.int .i64 st, .slice A0 n0 c0, .slice A1 n1 c1] 30)).alloc (.cells #[.int .i64 st, .slice A0' n0' c0', .slice A1' n1' c1'] 30)) from (below_size.alloc (Nat.le_refl _) _).alloc (by simp) _)
  refine (eqInt64S_s A0 n0 c0 xs0 A0' n0' c0' _ (by exact ((RdS.below H.out T.out)).left) (by exact ((RdS.below H'.out T.out)).left) hn0).mono ?_
  rintro e w1 ⟨rfl, hb⟩
  have y0_1 : w1.cell? ⟨w.heap.size, 2, none⟩ = some (.slice A1 n1 c1) := keepc hb (by simp)
  have z0_1 : w1.cell? ⟨w.heap.size + 1, 2, none⟩ = some (.slice A1' n1' c1') := keepc hb (by simp)
  have rT := below_chain T.out T.out.size hb; clear T hb; have T := Lib.hid rT; clear rT
  go_wp2_with fail
  refine (eqInt64S_s A1 n1 c1 xs1 A1' n1' c1' _ (by exact ((RdS.below H.out T.out)).right) (by exact ((RdS.below H'.out T.out)).right) hn1).mono ?_
  rintro e w2 ⟨rfl, hb⟩
  have rT := below_chain T.out T.out.size hb; clear T hb; have T := Lib.hid rT; clear rT
  go_wp2_with fail
  go_ret
  exact ⟨rfl, T.out⟩
set_option maxHeartbeats 2000000 in
theorem markConfig_c (st : Int) (A0 : Option Addr) (n0 : Nat) (c0 : Nat) (xs0 : List Int) (A1 : Option Addr) (n1 : Nat) (c1 : Nat) (xs1 : List Int) (lo hi : Nat) (k0 : Int) (w : World) (h : WrS w lo hi (sgConfig A0 n0 xs0 A1 n1 xs1)) (hn0 : n0 ≤ 1000000000) (hn1 : n1 ≤ 1000000000)   (hbx : hi ≤ w.heap.size) (h0 : 0 ≤ k0) (h1 : k0 ≤ 1000000000) :
    Calls Try.prog 15 #[.agg #[.int .i64 st, .slice A0 n0 c0, .slice A1 n1 c1], .int .i64 k0] w fun e w' => e = .returned (.int .i64 (k0 + ((n0 + n1 : Nat) : Int))) ∧ WrS w' lo hi (mgConfig A0 n0 xs0 A1 n1 xs1 k0) ∧ KeepR lo hi w w' := by
  have H := Lib.hid (h.alloc (.cells #[.int .i64 st, .slice A0 n0 c0, .slice A1 n1 c1] 30)); clear h
  go_enter Try.func15, Try.ntmps15
  go_wp2_with fail
  have K := Lib.hid (show KeepR lo hi w (w.alloc (.cells #[.int .i64 st, .slice A0 n0 c0, .slice A1 n1 c1] 30)) from KeepR.of_below (below_size.alloc (Nat.le_refl _) _))
  have C := Lib.hid (show Blk (w.alloc (.cells #[.int .i64 st, .slice A0 n0 c0, .slice A1 n1 c1] 30)) w.heap.size 30 #[.int .i64 st, .slice A0 n0 c0, .slice A1 n1 c1] from Blk.new w _ _)
  have H0 := Lib.hid (show WrS _ lo hi ([] ++ ([sgI A0 n0 xs0] ++ (([sgI A1 n1 xs1])))) by have := H.out; simpa [sgConfig] using this); clear H
  refine (markInt64S_g A0 n0 c0 xs0 lo hi ([]) (([sgI A1 n1 xs1])) _ _ H0.out hn0 (by omega) (by omega)).mono ?_
  rintro e w1 ⟨rfl, hw, hk⟩
  have Q0 := Lib.hid hw; have rK := K.out.trans hk; have rC := C.out; clear hw
  have y0_1 : w1.cell? ⟨w.heap.size, 2, none⟩ = some (.slice A1 n1 c1) := hk.cell (.inr hbx) (by simp)
  clear rC hk K; have K := Lib.hid rK; clear rK
  go_wp2_with fail
  have H1 := Lib.hid (show WrS _ lo hi (([] ++ ([⟨A0, n0, (marks (k0) n0).map i64⟩])) ++ ([sgI A1 n1 xs1] ++ ([]))) by have := Q0.out; simpa [List.append_assoc] using this); clear Q0
  refine (markInt64S_g A1 n1 c1 xs1 lo hi ([] ++ ([⟨A0, n0, (marks (k0) n0).map i64⟩])) ([]) _ _ H1.out hn1 (by omega) (by omega)).mono ?_
  rintro e w2 ⟨rfl, hw, hk⟩
  have Q1 := Lib.hid hw; have rK := K.out.trans hk; have rC := C.out; clear hw
  clear rC hk K; have K := Lib.hid rK; clear rK
  go_wp2_with fail
  go_ret
  refine ⟨by first | rfl | (simp [Int.add_assoc]; done), ?_, K.out⟩
  have := Q1.out
  simpa [mgConfig, List.append_assoc, Int.add_assoc] using this
set_option maxHeartbeats 2000000 in
theorem heldConfig_c (st : Int) (A0 : Option Addr) (n0 : Nat) (c0 : Nat) (xs0 : List Int) (A1 : Option Addr) (n1 : Nat) (c1 : Nat) (xs1 : List Int) (k0 : Int) (w : World) (h : RdS w (mgConfig A0 n0 xs0 A1 n1 xs1 k0)) (hn0 : n0 ≤ 1000000000) (hn1 : n1 ≤ 1000000000)   (h0 : 0 ≤ k0) (h1 : k0 ≤ 1000000000) :
    Calls Try.prog 16 #[.agg #[.int .i64 st, .slice A0 n0 c0, .slice A1 n1 c1], .int .i64 k0] w fun e w' => e = .returned (.int .i64 (k0 + ((n0 + n1 : Nat) : Int))) ∧ Below w.heap.size w w' := by
  have H := Lib.hid h; clear h
  go_enter Try.func16, Try.ntmps16
  go_wp2_with fail
  have T := Lib.hid (show Below w.heap.size w (w.alloc (.cells #[.int .i64 st, .slice A0 n0 c0, .slice A1 n1 c1] 30)) from below_size.alloc (Nat.le_refl _) _)
  refine (heldInt64S_r A0 n0 c0 xs0 _ _ (by exact ((RdS.below H.out T.out)).left) hn0 (by omega) (by omega)).mono ?_
  rintro e w1 ⟨rfl, hb⟩
  have y0_1 : w1.cell? ⟨w.heap.size, 2, none⟩ = some (.slice A1 n1 c1) := keepc hb (by simp)
  have rT := below_chain T.out T.out.size hb; clear T hb; have T := Lib.hid rT; clear rT
  go_wp2_with fail
  refine (heldInt64S_r A1 n1 c1 xs1 _ _ (by exact ((RdS.below H.out T.out)).right) hn1 (by omega) (by omega)).mono ?_
  rintro e w2 ⟨rfl, hb⟩
  have rT := below_chain T.out T.out.size hb; clear T hb; have T := Lib.hid rT; clear rT
  go_wp2_with fail
  go_ret
  exact ⟨by first | rfl | (simp [Int.add_assoc]; done), T.out⟩
end Go.Proofs.Ytcbcjhfeidkeaaa
