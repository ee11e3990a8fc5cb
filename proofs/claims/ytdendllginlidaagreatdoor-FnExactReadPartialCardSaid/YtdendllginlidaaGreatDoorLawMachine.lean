/-
  The helpers of the laws at Machine: sizes, copies, comparisons, marks.
-/
import Derived.Test.YtdendllginlidaaGreatDoorSegI
import Derived.Test.YtdendllginlidaaGreatDoorLawRule
namespace Go.Proofs.YtdendllginlidaaGreatDoor
open Go.RowKit

/-- the rows of a Machine -/
def sgMachine (A0 : Option Addr) (n0 : Nat) (xs0 : List (Int × Int × Int)) : List Seg := [sgX enc3 3 A0 n0 xs0]
/-- .. and marked from k0 on -/
def mgMachine (A0 : Option Addr) (n0 : Nat) (_xs0 : List (Int × Int × Int)) (k0 : Int) : List Seg := [⟨A0, n0 * 3, (marks (k0) (n0 * 3)).map i64⟩]
theorem szMachine_c (sy st : Int) (A0 : Option Addr) (n0 : Nat) (c0 : Nat) (xs0 : List (Int × Int × Int)) (left : Int) (w : World) (hn0 : n0 ≤ 9223372036854775807)  (hl : 0 ≤ left) (hl' : left ≤ 1000000000000) :
    Calls Tryz.prog 5 #[.agg #[.int .i64 sy, .int .i64 st, .slice A0 n0 c0], .int .i64 left] w fun e w' => e = .returned (.int .i64 (szOf left (n0))) ∧ Below w.heap.size w w' := by
  go_enter Tryz.func5, Tryz.ntmps5
  go_wp2_with fail
  refine (szRuleS_s A0 n0 c0 xs0 _ _ hn0 (by omega) (by omega)).mono ?_
  rintro e w1 ⟨rfl, hb⟩
  have B1 := Lib.hid (up1 hb); clear hb
  by_cases g0 : left < ((n0 : Nat) : Int)
  · have HE := Lib.hid (show szOf left (n0) = -1 from szOf_neg' (by omega))
    rw [szOf_neg' g0]
    go_wp2_with fail
    go_ret
    exact ⟨by rw [HE.out]; rfl, B1.out⟩
  rw [szOf_pos' (by omega)]
  have HE := Lib.hid (show szOf left (n0) = left - ((n0 : Nat) : Int) from (szOf_pos' (by omega)).trans (by omega))
  go_wp2_with fail
  go_ret
  exact ⟨by rw [HE.out]; rfl, B1.out⟩
set_option maxHeartbeats 2000000 in
theorem toMachine_c (sy st : Int) (A0 : Option Addr) (n0 : Nat) (c0 : Nat) (xs0 : List (Int × Int × Int)) (w : World) (h : RdS w (sgMachine A0 n0 xs0)) (hn0 : n0 ≤ 1000000000)  :
    Calls Tryz.prog 7 #[.agg #[.int .i64 sy, .int .i64 st, .slice A0 n0 c0]] w fun e w' => ∃ g0, e = .returned (.agg #[.int .i64 sy, .int .i64 st, .slice (some ⟨g0, 0, none⟩) n0 n0]) ∧ WrS w' w.heap.size w'.heap.size (sgMachine (some ⟨g0, 0, none⟩) n0 xs0) ∧ Below w.heap.size w w' := by
  have H := Lib.hid (RdSU.mk' h); clear h
  go_enter Tryz.func7, Tryz.ntmps7
  go_wp2_with fail
  have B := Lib.hid (show Blk (((w.alloc (.cells #[.int .i64 sy, .int .i64 st, .slice A0 n0 c0] 24)).alloc (.cells #[.int .i64 0, .int .i64 0, .slice none 0 0] 33)).alloc (.cells #[.int .i64 sy, .int .i64 st, .slice none 0 0] 33)) w.heap.size 24 #[.int .i64 sy, .int .i64 st, .slice A0 n0 c0] from ((Blk.new w _ _).alloc _).alloc _)
  have R := Lib.hid (show Blk (((w.alloc (.cells #[.int .i64 sy, .int .i64 st, .slice A0 n0 c0] 24)).alloc (.cells #[.int .i64 0, .int .i64 0, .slice none 0 0] 33)).alloc (.cells #[.int .i64 sy, .int .i64 st, .slice none 0 0] 33)) (w.heap.size + 1) 33 #[.int .i64 0, .int .i64 0, .slice none 0 0] by
    have := (Blk.new (w.alloc (.cells #[.int .i64 sy, .int .i64 st, .slice A0 n0 c0] 24)) 33 #[.int .i64 0, .int .i64 0, .slice none 0 0]).alloc (.cells #[.int .i64 sy, .int .i64 st, .slice none 0 0] 33)
    rw [World.size_alloc] at this
    exact this)
  have O := Lib.hid (show Blk (((w.alloc (.cells #[.int .i64 sy, .int .i64 st, .slice A0 n0 c0] 24)).alloc (.cells #[.int .i64 0, .int .i64 0, .slice none 0 0] 33)).alloc (.cells #[.int .i64 sy, .int .i64 st, .slice none 0 0] 33)) (w.heap.size + 1 + 1) 33 #[.int .i64 sy, .int .i64 st, .slice none 0 0] by
    have := Blk.new ((w.alloc (.cells #[.int .i64 sy, .int .i64 st, .slice A0 n0 c0] 24)).alloc (.cells #[.int .i64 0, .int .i64 0, .slice none 0 0] 33)) 33 #[.int .i64 sy, .int .i64 st, .slice none 0 0]
    rw [World.size_alloc, World.size_alloc] at this
    exact this)
  have T := Lib.hid (show Below w.heap.size w (((w.alloc (.cells #[.int .i64 sy, .int .i64 st, .slice A0 n0 c0] 24)).alloc (.cells #[.int .i64 0, .int .i64 0, .slice none 0 0] 33)).alloc (.cells #[.int .i64 sy, .int .i64 st, .slice none 0 0] 33)) from (by have hzz := ((below_size : Below w.heap.size w w)).size; repeat' (first | (with_reducible exact (below_size : Below w.heap.size w w)) | (with_reducible refine Below.alloc ?_ ?_ _) | (with_reducible refine Below.setCell ?_ ?_ _) | (with_reducible refine below_drew ?_) | omega | (simp; done) | (simp; omega))))
  have hW : w.heap.size + 1 + 1 < (((w.alloc (.cells #[.int .i64 sy, .int .i64 st, .slice A0 n0 c0] 24)).alloc (.cells #[.int .i64 0, .int .i64 0, .slice none 0 0] 33)).alloc (.cells #[.int .i64 sy, .int .i64 st, .slice none 0 0] 33)).heap.size := by simp
  refine (toRuleS_s A0 n0 c0 xs0 _ (by exact RdSU.rd (H.out.belowB T.out)) hn0).mono ?_
  rintro e w1 ⟨g0, rfl, hw, hb⟩
  have rB := B.out.keep hb; have rR := R.out.keep hb; have rO := O.out.keep hb; have rT := below_chain T.out T.out.size hb
  have hw1 := hb.size
  simp only [World.size_alloc] at hw1 hw
  have hW : w.heap.size + 1 + 1 + 1 ≤ w1.heap.size := by omega
  clear B R O T
  have B := Lib.hid rB; have R := Lib.hid rR; have O := Lib.hid rO; have T := Lib.hid rT; have Q0 := Lib.hid hw
  clear rB rR rO rT hw hb
  have oc0 := O.out.cell 0; have of0 := O.out.frozen 0
  simp at oc0
  have oc1 := O.out.cell 1; have of1 := O.out.frozen 1
  simp at oc1
  have oc2 := O.out.cell 2; have of2 := O.out.frozen 2
  simp at oc2
  have rc0 := R.out.cell 0; have rf0 := R.out.frozen 0
  simp at rc0
  have rc1 := R.out.cell 1; have rf1 := R.out.frozen 1
  simp at rc1
  have rc2 := R.out.cell 2; have rf2 := R.out.frozen 2
  simp at rc2
  go_wp2_with fail
  refine bodyPost_ret (v := .agg #[.int .i64 sy, .int .i64 st, .slice (some ⟨g0, 0, none⟩) n0 n0]) (by simp [results, Tryz.results7, go_sem, rc0, rc1, rc2]) rfl ⟨g0, rfl, ?_, (by have hzz := (T.out).size; repeat' (first | (with_reducible exact T.out) | (with_reducible refine Below.alloc ?_ ?_ _) | (with_reducible refine Below.setCell ?_ ?_ _) | (with_reducible refine below_drew ?_) | omega | (simp; done) | (simp; omega)))⟩
  exact (((((Q0.out.set_far (.inl (by simp <;> omega)) _).set_far (.inl (by simp <;> omega)) _).set_far (.inl (by simp <;> omega)) _).set_far (.inl (by simp <;> omega)) _)).wider (by omega) (by simp)
set_option maxHeartbeats 2000000 in
theorem eqMachine_t (sy st : Int) (A0 : Option Addr) (n0 : Nat) (c0 : Nat) (xs0 : List (Int × Int × Int)) (A0' : Option Addr) (n0' : Nat) (c0' : Nat) (w : World) (h : RdS w (sgMachine A0 n0 xs0)) (h' : RdS w (sgMachine A0' n0' xs0)) (hn0 : n0 ≤ 1000000000)  :
    Calls Tryz.prog 10 #[.agg #[.int .i64 sy, .int .i64 st, .slice A0 n0 c0], .agg #[.int .i64 sy, .int .i64 st, .slice A0' n0' c0']] w fun e w' => e = .returned (.bool true) ∧ Below w.heap.size w w' := by
  have H := Lib.hid h; have H' := Lib.hid h'; clear h h'
  have g0 : (sy != sy) = false := by simp
  have g1 : (st != st) = false := by simp
  go_enter Tryz.func10, Tryz.ntmps10
  go_wp2_with fail
  have T := Lib.hid (show Below w.heap.size w ((w.alloc (.cells #[.int .i64 sy, .int .i64 st, .slice A0 n0 c0] 33)).alloc (.cells #[.int .i64 sy, .int .i64 st, .slice A0' n0' c0'] 33)) from (below_size.alloc (Nat.le_refl _) _).alloc (by simp) _)
  refine (eqRuleS_s A0 n0 c0 xs0 A0' n0' c0' _ (by exact (RdS.below H.out T.out)) (by exact (RdS.below H'.out T.out)) hn0).mono ?_
  rintro e w1 ⟨rfl, hb⟩
  have rT := below_chain T.out T.out.size hb; clear T hb; have T := Lib.hid rT; clear rT
  go_wp2_with fail
  go_ret
  exact ⟨rfl, T.out⟩
set_option maxHeartbeats 2000000 in
theorem markMachine_c (sy st : Int) (A0 : Option Addr) (n0 : Nat) (c0 : Nat) (xs0 : List (Int × Int × Int)) (lo hi : Nat) (k0 : Int) (w : World) (h : WrS w lo hi (sgMachine A0 n0 xs0)) (hn0 : n0 ≤ 1000000000)  (h0 : 0 ≤ k0) (h1 : k0 ≤ 100000000000) :
    Calls Tryz.prog 11 #[.agg #[.int .i64 sy, .int .i64 st, .slice A0 n0 c0], .int .i64 k0] w fun e w' => e = .returned (.int .i64 (k0 + ((n0 * 3 : Nat) : Int))) ∧ WrS w' lo hi (mgMachine A0 n0 xs0 k0) ∧ KeepR lo hi w w' := by
  have H := Lib.hid (h.alloc (.cells #[.int .i64 sy, .int .i64 st, .slice A0 n0 c0] 33)); clear h
  go_enter Tryz.func11, Tryz.ntmps11
  go_wp2_with fail
  have K := Lib.hid (show KeepR lo hi w (w.alloc (.cells #[.int .i64 sy, .int .i64 st, .slice A0 n0 c0] 33)) from KeepR.of_below (below_size.alloc (Nat.le_refl _) _))
  refine (markRuleS_s A0 n0 c0 xs0 lo hi _ _ H.out hn0 h0 h1).mono ?_
  rintro e w1 ⟨rfl, hw, hk⟩
  have Q := Lib.hid hw; have K2 := Lib.hid (K.out.trans hk); clear hw hk
  go_wp2_with fail
  go_ret
  exact ⟨rfl, Q.out, K2.out⟩
end Go.Proofs.YtdendllginlidaaGreatDoor
