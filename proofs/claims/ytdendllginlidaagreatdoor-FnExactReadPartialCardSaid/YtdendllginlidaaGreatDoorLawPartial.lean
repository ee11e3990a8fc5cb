/-
  The helpers of the laws at Partial: sizes, copies, comparisons, marks.
-/
import Derived.Test.YtdendllginlidaaGreatDoorSegI
import Derived.Test.YtdendllginlidaaGreatDoorLawI
namespace Go.Proofs.YtdendllginlidaaGreatDoor
open Go.RowKit

/-- the rows of a Partial -/
def sgPartial (A0 : Option Addr) (n0 : Nat) (xs0 : List Int) : List Seg := [sgI A0 n0 xs0]
/-- .. and marked from k0 on -/
def mgPartial (A0 : Option Addr) (n0 : Nat) (_xs0 : List Int) (k0 : Int) : List Seg := [⟨A0, n0, (marks (k0) n0).map i64⟩]
set_option maxHeartbeats 2000000 in
theorem eqPartial_t (st at_ : Int) (A0 : Option Addr) (n0 : Nat) (c0 : Nat) (xs0 : List Int) (A0' : Option Addr) (n0' : Nat) (c0' : Nat) (w : World) (h : RdS w (sgPartial A0 n0 xs0)) (h' : RdS w (sgPartial A0' n0' xs0)) (hn0 : n0 ≤ 1000000000)  :
    Calls Tryz.prog 9 #[.agg #[.int .i64 st, .int .i64 at_, .slice A0 n0 c0], .agg #[.int .i64 st, .int .i64 at_, .slice A0' n0' c0']] w fun e w' => e = .returned (.bool true) ∧ Below w.heap.size w w' := by
  have H := Lib.hid h; have H' := Lib.hid h'; clear h h'
  have g0 : (st != st) = false := by simp
  have g1 : (at_ != at_) = false := by simp
  go_enter Tryz.func9, Tryz.ntmps9
  go_wp2_with fail
  have T := Lib.hid (show Below w.heap.size w ((w.alloc (.cells #[.int .i64 st, .int .i64 at_, .slice A0 n0 c0] 28)).alloc (.cells #[.int .i64 st, .int .i64 at_, .slice A0' n0' c0'] 28)) from (below_size.alloc (Nat.le_refl _) _).alloc (by simp) _)
  refine (eqInt64S_s A0 n0 c0 xs0 A0' n0' c0' _ (by exact (RdS.below H.out T.out)) (by exact (RdS.below H'.out T.out)) hn0).mono ?_
  rintro e w1 ⟨rfl, hb⟩
  have rT := below_chain T.out T.out.size hb; clear T hb; have T := Lib.hid rT; clear rT
  go_wp2_with fail
  go_ret
  exact ⟨rfl, T.out⟩
set_option maxHeartbeats 2000000 in
theorem markPartial_c (st at_ : Int) (A0 : Option Addr) (n0 : Nat) (c0 : Nat) (xs0 : List Int) (lo hi : Nat) (k0 : Int) (w : World) (h : WrS w lo hi (sgPartial A0 n0 xs0)) (hn0 : n0 ≤ 1000000000)  (h0 : 0 ≤ k0) (h1 : k0 ≤ 100000000000) :
    Calls Tryz.prog 12 #[.agg #[.int .i64 st, .int .i64 at_, .slice A0 n0 c0], .int .i64 k0] w fun e w' => e = .returned (.int .i64 (k0 + ((n0 : Nat) : Int))) ∧ WrS w' lo hi (mgPartial A0 n0 xs0 k0) ∧ KeepR lo hi w w' := by
  have H := Lib.hid (h.alloc (.cells #[.int .i64 st, .int .i64 at_, .slice A0 n0 c0] 28)); clear h
  go_enter Tryz.func12, Tryz.ntmps12
  go_wp2_with fail
  have K := Lib.hid (show KeepR lo hi w (w.alloc (.cells #[.int .i64 st, .int .i64 at_, .slice A0 n0 c0] 28)) from KeepR.of_below (below_size.alloc (Nat.le_refl _) _))
  refine (markInt64S_s A0 n0 c0 xs0 lo hi _ _ H.out hn0 h0 h1).mono ?_
  rintro e w1 ⟨rfl, hw, hk⟩
  have Q := Lib.hid hw; have K2 := Lib.hid (K.out.trans hk); clear hw hk
  go_wp2_with fail
  go_ret
  exact ⟨rfl, Q.out, K2.out⟩
set_option maxHeartbeats 2000000 in
theorem heldPartial_c (st at_ : Int) (A0 : Option Addr) (n0 : Nat) (c0 : Nat) (xs0 : List Int) (k0 : Int) (w : World) (h : RdS w (mgPartial A0 n0 xs0 k0)) (hn0 : n0 ≤ 1000000000)  (h0 : 0 ≤ k0) (h1 : k0 ≤ 100000000000) :
    Calls Tryz.prog 13 #[.agg #[.int .i64 st, .int .i64 at_, .slice A0 n0 c0], .int .i64 k0] w fun e w' => e = .returned (.int .i64 (k0 + ((n0 : Nat) : Int))) ∧ Below w.heap.size w w' := by
  have H := Lib.hid h; clear h
  go_enter Tryz.func13, Tryz.ntmps13
  go_wp2_with fail
  have T := Lib.hid (show Below w.heap.size w (w.alloc (.cells #[.int .i64 st, .int .i64 at_, .slice A0 n0 c0] 28)) from below_size.alloc (Nat.le_refl _) _)
  refine (heldInt64S_r A0 n0 c0 xs0 _ _ (by exact (RdS.below H.out T.out)) hn0 (by omega) (by omega)).mono ?_
  rintro e w1 ⟨rfl, hb⟩
  have rT := below_chain T.out T.out.size hb; clear T hb; have T := Lib.hid rT; clear rT
  go_wp2_with fail
  go_ret
  exact ⟨by first | rfl | (simp [Int.add_assoc]; done), T.out⟩
end Go.Proofs.YtdendllginlidaaGreatDoor
