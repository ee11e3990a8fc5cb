/-
  Contracts of chapter 23: TagTree.
-/
import Derived.Test.YtplcpldbenjjgaaC21c
namespace Go.Proofs.Ytplcpldbenjjgaa
open Go.RowKit

def tagR (x : Int) : List Bool × Int := if inB x 0 11 then (treeL x, 0) else ([], 2)
theorem l23Tag_c (x : Int) (w : World) (h0 : 0 ≤ x) (h1 : x ≤ 1000000000000) :
    Calls Try.prog 78 #[.int .i64 x] w fun e w' => ∃ A n c, e = .returned (.slice A n c) ∧ Wr w' w.heap.size w'.heap.size A n ((treeL x).map Value.bool) ∧ n ≤ 1000000 ∧ Below w.heap.size w w' := by
  have HR := Lib.hid (show treeR x = (treeL x, 0) by simp [treeR, inB_of h0 h1])
  go_enter Try.func78, Try.ntmps78
  go_wp2_with fail
  refine (sTreeAt_c _ _).mono ?_
  rintro e w1 ⟨A, n, c, rfl, hw, hn, hb1⟩
  have HW := Lib.hid hw; have HB := Lib.hid hb1
  clear hw hb1
  go_wp2_with fail
  go_ret
  exact ⟨_, _, _, rfl, by rw [HR.out] at HW; exact HW.out, hn, HB.out⟩
theorem sTagTree_c (x : Int) (w : World) :
    Calls Try.prog 20 #[.int .i64 x] w fun e w' => ∃ A n c, e = .returned (.tuple #[.slice A n c, .int .i64 (tagR x).2]) ∧ Wr w' w.heap.size w'.heap.size A n ((tagR x).1.map Value.bool) ∧ n ≤ 1000000 ∧ Below w.heap.size w w' := by
  cases hx : inB x 0 11
  · have HR := Lib.hid (show tagR x = ([], 2) by simp [tagR, hx])
    go_enter Try.func20, Try.ntmps20
    go_wp2_with fail
    refine (l00In_b _ _ _ _ hx _).mono ?_
    rintro e w' ⟨rfl, rfl⟩
    go_wp2_with fail
    go_ret2
    rw [HR.out]
    exact ⟨_, _, _, rfl, Wr.nil, by omega, below_size⟩
  · have HR := Lib.hid (show tagR x = (treeL x, 0) by simp [tagR, hx])
    have hb := inB_t hx
    go_enter Try.func20, Try.ntmps20
    go_wp2_with fail
    refine (l00In_b _ _ _ _ hx _).mono ?_
    rintro e w' ⟨rfl, rfl⟩
    go_wp2_with fail
    first | refine (l23Tag_c x _ hb.1 (by omega)).mono ?_ | refine (treeAt_c x _ hb.1 (by omega)).mono ?_
    rintro e w1 ⟨A, n, c, rfl, hw, hn, hb1⟩
    have HW := Lib.hid hw; have HB := Lib.hid hb1
    clear hw hb1
    go_wp2_with fail
    go_ret2
    rw [HR.out]
    exact ⟨_, _, _, rfl, HW.out, hn, HB.out⟩
theorem iTagTree_c (x : Int) (w : World) :
    Calls Try.prog 21 #[.int .i64 x] w fun e w' => ∃ A n c, e = .returned (.tuple #[.slice A n c, .int .i64 (tagR x).2]) ∧ Wr w' w.heap.size w'.heap.size A n ((tagR x).1.map Value.bool) ∧ n ≤ 1000000 ∧ Below w.heap.size w w' := by
  cases hx : inB x 0 11
  · have HR := Lib.hid (show tagR x = ([], 2) by simp [tagR, hx])
    go_enter Try.func21, Try.ntmps21
    go_wp2_with fail
    refine (within_b _ _ _ _ hx _).mono ?_
    rintro e w' ⟨rfl, rfl⟩
    go_wp2_with fail
    go_ret2
    rw [HR.out]
    exact ⟨_, _, _, rfl, Wr.nil, by omega, below_size⟩
  · have HR := Lib.hid (show tagR x = (treeL x, 0) by simp [tagR, hx])
    have hb := inB_t hx
    go_enter Try.func21, Try.ntmps21
    go_wp2_with fail
    refine (within_b _ _ _ _ hx _).mono ?_
    rintro e w' ⟨rfl, rfl⟩
    go_wp2_with fail
    first | refine (l23Tag_c x _ hb.1 (by omega)).mono ?_ | refine (treeAt_c x _ hb.1 (by omega)).mono ?_
    rintro e w1 ⟨A, n, c, rfl, hw, hn, hb1⟩
    have HW := Lib.hid hw; have HB := Lib.hid hb1
    clear hw hb1
    go_wp2_with fail
    go_ret2
    rw [HR.out]
    exact ⟨_, _, _, rfl, HW.out, hn, HB.out⟩
end Go.Proofs.Ytplcpldbenjjgaa
