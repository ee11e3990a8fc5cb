/-
  The helpers of the laws at Command: sizes, copies, comparisons, marks.
-/
import Derived.Test.YtkchgjegdmcnaaaDoorSegI
import Derived.Test.YtkchgjegdmcnaaaDoorSegE
namespace Go.Proofs.YtkchgjegdmcnaaaDoor
open Go.RowKit

/-- the rows of a Command -/
def sgCommand (A0 : Option Addr) (n0 : Nat) (xs0 : List (Int × Int)) : List Seg := [sgX enc2 2 A0 n0 xs0]
/-- .. and marked from k0 on -/
def mgCommand (A0 : Option Addr) (n0 : Nat) (_xs0 : List (Int × Int)) (k0 : Int) : List Seg := [⟨A0, n0 * 2, (marks (k0) (n0 * 2)).map i64⟩]
theorem szCommand_c (kd vr ln : Int) (A0 : Option Addr) (n0 : Nat) (c0 : Nat) (xs0 : List (Int × Int)) (left : Int) (w : World) (hn0 : n0 ≤ 9223372036854775807)  (hl : 0 ≤ left) (hl' : left ≤ 1000000000000) :
    Calls Tryd.prog 17 #[.agg #[.int .i64 kd, .int .i64 vr, .int .i64 ln, .slice A0 n0 c0], .int .i64 left] w fun e w' => e = .returned (.int .i64 (szOf left (n0))) ∧ Below w.heap.size w w' := by
  go_enter Tryd.func17, Tryd.ntmps17
  go_wp2_with fail
  refine (szExprS_s A0 n0 c0 xs0 _ _ hn0 (by omega) (by omega)).mono ?_
  rintro e w1 ⟨rfl, hb⟩
  have B1 := Lib.hid (up1 hb); clear hb
  by_cases g0 : left < ((n0 : Nat) : Int)
  · have HE := Lib.hid (show szOf left (n0) = -1 from szOf_neg' (by omega))
    rw [szOf_neg' g0]
    go_wp2_with fail
    go_ret
    exact ⟨by rw [HE.out]; rfl, B1.out⟩
  rw [szOf_pos' (by omega)]
  have HE := Lib.hid (show szOf left (n0) = left - ((n0 : Nat) : Int) from (szOf_pos' (by omega)).trans (by omega))
  go_wp2_with fail
  go_ret
  exact ⟨by rw [HE.out]; rfl, B1.out⟩
set_option maxHeartbeats 2000000 in
theorem toCommand_c (kd vr ln : Int) (A0 : Option Addr) (n0 : Nat) (c0 : Nat) (xs0 : List (Int × Int)) (w : World) (h : RdS w (sgCommand A0 n0 xs0)) (hn0 : n0 ≤ 1000000000)  :
    Calls Tryd.prog 20 #[.agg #[.int .i64 kd, .int .i64 vr, .int .i64 ln, .slice A0 n0 c0]] w fun e w' => ∃ g0, e = .returned (.agg #[.int .i64 kd, .int .i64 vr, .int .i64 ln, .slice (some ⟨g0, 0, none⟩) n0 n0]) ∧ WrS w' w.heap.size w'.heap.size (sgCommand (some ⟨g0, 0, none⟩) n0 xs0) ∧ Below w.heap.size w w' := by
  have H := Lib.hid (RdSU.mk' h); clear h
  go_enter Tryd.func20, Tryd.ntmps20
  go_wp2_with fail
  have B := Lib.hid (show Blk (((w.alloc (.cells #[.int .i64 kd, .int .i64 vr, .int .i64 ln, .slice A0 n0 c0] 38)).alloc (.cells #[.int .i64 0, .int .i64 0, .int .i64 0, .slice none 0 0] 42)).alloc (.cells #[.int .i64 kd, .int .i64 vr, .int .i64 ln, .slice none 0 0] 42)) w.heap.size 38 #[.int .i64 kd, .int .i64 vr, .int .i64 ln, .slice A0 n0 c0] from ((Blk.new w _ _).alloc _).alloc _)
  have R := Lib.hid (show Blk (((w.alloc (.cells #[.int .i64 kd, .int .i64 vr, .int .i64 ln, .slice A0 n0 c0] 38)).alloc (.cells #[.int .i64 0, .int .i64 0, .int .i64 0, .slice none 0 0] 42)).alloc (.cells #[.int .i64 kd, .int .i64 vr, .int .i64 ln, .slice none 0 0] 42)) (w.heap.size + 1) 42 #[.int .i64 0, .int .i64 0, .int .i64 0, .slice none 0 0] by
    have := (Blk.new (w.alloc (.cells #[.int .i64 kd, .int .i64 vr, .int .i64 ln, .slice A0 n0 c0] 38)) 42 #[.int .i64 0, .int .i64 0, .int .i64 0, .slice none 0 0]).alloc (.cells #[.int .i64 kd, .int .i64 vr, .int .i64 ln, .slice none 0 0] 42)
    rw [World.size_alloc] at this
    exact this)
  have O := Lib.hid (show Blk (((w.alloc (.cells #[.int .i64 kd, .int .i64 vr, .int .i64 ln, .slice A0 n0 c0] 38)).alloc (.cells #[.int .i64 0, .int .i64 0, .int .i64 0, .slice none 0 0] 42)).alloc (.cells #[.int .i64 kd, .int .i64 vr, .int .i64 ln, .slice none 0 0] 42)) (w.heap.size + 1 + 1) 42 #[.int .i64 kd, .int .i64 vr, .int .i64 ln, .slice none 0 0] by
    have := Blk.new ((w.alloc (.cells #[.int .i64 kd, .int .i64 vr, .int .i64 ln, .slice A0 n0 c0] 38)).alloc (.cells #[.int .i64 0, .int .i64 0, .int .i64 0, .slice none 0 0] 42)) 42 #[.int .i64 kd, .int .i64 vr, .int .i64 ln, .slice none 0 0]
    rw [World.size_alloc, World.size_alloc] at this
    exact this)
  have T := Lib.hid (show Below w.heap.size w (((w.alloc (.cells #[.int .i64 kd, .int .i64 vr, .int .i64 ln, .slice A0 n0 c0] 38)).alloc (.cells #[.int .i64 0, .int .i64 0, .int .i64 0, .slice none 0 0] 42)).alloc (.cells #[.int .i64 kd, .int .i64 vr, .int .i64 ln, .slice none 0 0] 42)) from (by have hzz := ((below_size : Below w.heap.size w w)).size; repeat' (first | (with_reducible exact (below_size : Below w.heap.size w w)) | (with_reducible refine Below.alloc ?_ ?_ _) | (with_reducible refine Below.setCell ?_ ?_ _) | (with_reducible refine below_drew ?_) | omega | (simp; done) | (simp; omega))))
  have hW : w.heap.size + 1 + 1 < (((w.alloc (.cells #[.int .i64 kd, .int .i64 vr, .int .i64 ln, .slice A0 n0 c0] 38)).alloc (.cells #[.int .i64 0, .int .i64 0, .int .i64 0, .slice none 0 0] 42)).alloc (.cells #[.int .i64 kd, .int .i64 vr, .int .i64 ln, .slice none 0 0] 42)).heap.size := by simp
  refine (toExprS_s A0 n0 c0 xs0 _ (by exact RdSU.rd (H.out.belowB T.out)) hn0).mono ?_
  rintro e w1 ⟨g0, rfl, hw, hb⟩
  have rB := B.out.keep hb; have rR := R.out.keep hb; have rO := O.out.keep hb; have rT := below_chain T.out T.out.size hb
  have hw1 := hb.size
  simp only [World.size_alloc] at hw1 hw
  have hW : w.heap.size + 1 + 1 + 1 ≤ w1.heap.size := by omega
  clear B R O T
  have B := Lib.hid rB; have R := Lib.hid rR; have O := Lib.hid rO; have T := Lib.hid rT; have Q0 := Lib.hid hw
  clear rB rR rO rT hw hb
  have oc0 := O.out.cell 0; have of0 := O.out.frozen 0
  simp at oc0
  have oc1 := O.out.cell 1; have of1 := O.out.frozen 1
  simp at oc1
  have oc2 := O.out.cell 2; have of2 := O.out.frozen 2
  simp at oc2
  have oc3 := O.out.cell 3; have of3 := O.out.frozen 3
  simp at oc3
  have rc0 := R.out.cell 0; have rf0 := R.out.frozen 0
  simp at rc0
  have rc1 := R.out.cell 1; have rf1 := R.out.frozen 1
  simp at rc1
  have rc2 := R.out.cell 2; have rf2 := R.out.frozen 2
  simp at rc2
  have rc3 := R.out.cell 3; have rf3 := R.out.frozen 3
  simp at rc3
  go_wp2_with fail
  refine bodyPost_ret (v := .agg #[.int .i64 kd, .int .i64 vr, .int .i64 ln, .slice (some ⟨g0, 0, none⟩) n0 n0]) (by simp [results, Tryd.results20, go_sem, rc0, rc1, rc2, rc3]) rfl ⟨g0, rfl, ?_, (by have hzz := (T.out).size; repeat' (first | (with_reducible exact T.out) | (with_reducible refine Below.alloc ?_ ?_ _) | (with_reducible refine Below.setCell ?_ ?_ _) | (with_reducible refine below_drew ?_) | omega | (simp; done) | (simp; omega)))⟩
  exact ((((((Q0.out.set_far (.inl (by simp <;> omega)) _).set_far (.inl (by simp <;> omega)) _).set_far (.inl (by simp <;> omega)) _).set_far (.inl (by simp <;> omega)) _).set_far (.inl (by simp <;> omega)) _)).wider (by omega) (by simp)
set_option maxHeartbeats 2000000 in
theorem eqCommand_t (kd vr ln : Int) (A0 : Option Addr) (n0 : Nat) (c0 : Nat) (xs0 : List (Int × Int)) (A0' : Option Addr) (n0' : Nat) (c0' : Nat) (w : World) (h : RdS w (sgCommand A0 n0 xs0)) (h' : RdS w (sgCommand A0' n0' xs0)) (hn0 : n0 ≤ 1000000000)  :
    Calls Tryd.prog 23 #[.agg #[.int .i64 kd, .int .i64 vr, .int .i64 ln, .slice A0 n0 c0], .agg #[.int .i64 kd, .int .i64 vr, .int .i64 ln, .slice A0' n0' c0']] w fun e w' => e = .returned (.bool true) ∧ Below w.heap.size w w' := by
  have H := Lib.hid h; have H' := Lib.hid h'; clear h h'
  have g0 : (kd != kd) = false := by simp
  have g1 : (vr != vr) = false := by simp
  have g2 : (ln != ln) = false := by simp
  go_enter Tryd.func23, Tryd.ntmps23
  go_wp2_with fail
  have T := Lib.hid (show Below w.heap.size w ((w.alloc (.cells #[.int .i64 kd, .int .i64 vr, .int .i64 ln, .slice A0 n0 c0] 42)).alloc (.cells #[.int .i64 kd, .int .i64 vr, .int .i64 ln, .slice A0' n0' c0'] 42)) from (below_size.alloc (Nat.le_refl _) _).alloc (by simp) _)
  refine (eqExprS_s A0 n0 c0 xs0 A0' n0' c0' _ (by exact (RdS.below H.out T.out)) (by exact (RdS.below H'.out T.out)) hn0).mono ?_
  rintro e w1 ⟨rfl, hb⟩
  have rT := below_chain T.out T.out.size hb; clear T hb; have T := Lib.hid rT; clear rT
  go_wp2_with fail
  go_ret
  exact ⟨rfl, T.out⟩
end Go.Proofs.YtkchgjegdmcnaaaDoor
