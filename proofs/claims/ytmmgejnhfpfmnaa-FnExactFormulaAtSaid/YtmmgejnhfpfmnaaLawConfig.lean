/-
  The helpers of the laws at Config: sizes, copies, comparisons, marks.
-/
import Derived.Test.YtmmgejnhfpfmnaaSegI
import Derived.Test.YtmmgejnhfpfmnaaLawII
import Derived.Test.YtmmgejnhfpfmnaaLawI
namespace Go.Proofs.Ytmmgejnhfpfmnaa
open Go.RowKit

/-- the rows of a Config -/
def sgConfig (A0 : Option Addr) (n0 : Nat) (xs0 : List Int) (A1 : Option Addr) (n1 : Nat) (xs1 : List Int) : List Seg := [sgI A0 n0 xs0] ++ [sgI A1 n1 xs1]
/-- .. and marked from k0 on -/
def mgConfig (A0 : Option Addr) (n0 : Nat) (_xs0 : List Int) (A1 : Option Addr) (n1 : Nat) (_xs1 : List Int) (k0 : Int) : List Seg := [⟨A0, n0, (marks (k0) n0).map i64⟩] ++ [⟨A1, n1, (marks (k0 + (n0 : Nat)) n1).map i64⟩]
set_option maxHeartbeats 2000000 in
theorem eqConfig_t (st : Int) (A0 : Option Addr) (n0 : Nat) (c0 : Nat) (xs0 : List Int) (A1 : Option Addr) (n1 : Nat) (c1 : Nat) (xs1 : List Int) (A0' : Option Addr) (n0' : Nat) (c0' : Nat) (A1' : Option Addr) (n1' : Nat) (c1' : Nat) (w : World) (h : RdS w (sgConfig A0 n0 xs0 A1 n1 xs1)) (h' : RdS w (sgConfig A0' n0' xs0 A1' n1' xs1)) (hn0 : n0 ≤ 1000000000) (hn1 : n1 ≤ 1000000000)   :
    Calls Try.prog 33 #[.agg #[.int .i64 st, .slice A0 n0 c0, .slice A1 n1 c1], .agg #[.int .i64 st, .slice A0' n0' c0', .slice A1' n1' c1']] w fun e w' => e = .returned (.bool true) ∧ Below w.heap.size w w' := by
  have H := Lib.hid h; have H' := Lib.hid h'; clear h h'
  have g0 : (st != st) = false := by simp
  go_enter Try.func33, Try.ntmps33
  go_wp2_with fail
  have T := Lib.hid (show Below w.heap.size w ((w.alloc (.cells #[.int .i64 st, .slice A0 n0 c0, .slice A1 n1 c1] 59)).alloc (.cells #[.int .i64 st, .slice A0' n0' c0', .slice A1' n1' c1'] 59)) from (below_size.alloc (Nat.le_refl _) _).alloc (by simp) _)
  refine (eqInt64S_s A0 n0 c0 xs0 A0' n0' c0' _ (by exact ((RdS.below H.out T.out)).left) (by exact ((RdS.below H'.out T.out)).left) hn0).mono ?_
  rintro e w1 ⟨rfl, hb⟩
  have y0_1 : w1.cell? ⟨w.heap.size, 2, none⟩ = some (.slice A1 n1 c1) := keepc hb (by simp)
  have z0_1 : w1.cell? ⟨w.heap.size + 1, 2, none⟩ = some (.slice A1' n1' c1') := keepc hb (by simp)
  have rT := below_chain T.out T.out.size hb; clear T hb; have T := Lib.hid rT; clear rT
  go_wp2_with fail
  refine (eqInt64S_s A1 n1 c1 xs1 A1' n1' c1' _ (by exact ((RdS.below H.out T.out)).right) (by exact ((RdS.below H'.out T.out)).right) hn1).mono ?_
  rintro e w2 ⟨rfl, hb⟩
  have rT := below_chain T.out T.out.size hb; clear T hb; have T := Lib.hid rT; clear rT
  go_wp2_with fail
  go_ret
  exact ⟨rfl, T.out⟩
set_option maxHeartbeats 2000000 in
theorem markConfig_c (st : Int) (A0 : Option Addr) (n0 : Nat) (c0 : Nat) (xs0 : List Int) (A1 : Option Addr) (n1 : Nat) (c1 : Nat) (xs1 : List Int) (lo hi : Nat) (k0 : Int) (w : World) (h : WrS w lo hi (sgConfig A0 n0 xs0 A1 n1 xs1)) (hn0 : n0 ≤ 1000000000) (hn1 : n1 ≤ 1000000000)   (hbx : hi ≤ w.heap.size) (h0 : 0 ≤ k0) (h1 : k0 ≤ 1000000000) :
    Calls Try.prog 34 #[.agg #[.int .i64 st, .slice A0 n0 c0, .slice A1 n1 c1], .int .i64 k0] w fun e w' => e = .returned (.int .i64 (k0 + ((n0 + n1 : Nat) : Int))) ∧ WrS w' lo hi (mgConfig A0 n0 xs0 A1 n1 xs1 k0) ∧ KeepR lo hi w w' := by
  have H := Lib.hid (h.alloc (.cells #[.int .i64 st, .slice A0 n0 c0, .slice A1 n1 c1] 59)); clear h
  go_enter Try.func34, Try.ntmps34
  go_wp2_with fail
  have K := Lib.hid (show KeepR lo hi w (w.alloc (.cells #[.int .i64 st, .slice A0 n0 c0, .slice A1 n1 c1] 59)) from KeepR.of_below (below_size.alloc (Nat.le_refl _) _))
  have C := Lib.hid (show Blk (w.alloc (.cells #[.int .i64 st, .slice A0 n0 c0, .slice A1 n1 c1] 59)) w.heap.size 59 #[.int .i64 st, .slice A0 n0 c0, .slice A1 n1 c1] from Blk.new w _ _)
  have H0 := Lib.hid (show WrS _ lo hi ([] ++ ([sgI A0 n0 xs0] ++ (([sgI A1 n1 xs1])))) by have := H.out; simpa [sgConfig] using this); clear H
  refine (markInt64S_g A0 n0 c0 xs0 lo hi ([]) (([sgI A1 n1 xs1])) _ _ H0.out hn0 (by omega) (by omega)).mono ?_
  rintro e w1 ⟨rfl, hw, hk⟩
  have Q0 := Lib.hid hw; have rK := K.out.trans hk; have rC := C.out; clear hw
  have y0_1 : w1.cell? ⟨w.heap.size, 2, none⟩ = some (.slice A1 n1 c1) := hk.cell (.inr hbx) (by simp)
  clear rC hk K; have K := Lib.hid rK; clear rK
  go_wp2_with fail
  have H1 := Lib.hid (show WrS _ lo hi (([] ++ ([⟨A0, n0, (marks (k0) n0).map i64⟩])) ++ ([sgI A1 n1 xs1] ++ ([]))) by have := Q0.out; simpa [List.append_assoc] using this); clear Q0
  refine (markInt64S_g A1 n1 c1 xs1 lo hi ([] ++ ([⟨A0, n0, (marks (k0) n0).map i64⟩])) ([]) _ _ H1.out hn1 (by omega) (by omega)).mono ?_
  rintro e w2 ⟨rfl, hw, hk⟩
  have Q1 := Lib.hid hw; have rK := K.out.trans hk; have rC := C.out; clear hw
  clear rC hk K; have K := Lib.hid rK; clear rK
  go_wp2_with fail
  go_ret
  refine ⟨by first | rfl | (simp [Int.add_assoc]; done), ?_, K.out⟩
  have := Q1.out
  simpa [mgConfig, List.append_assoc, Int.add_assoc] using this
set_option maxHeartbeats 2000000 in
theorem heldConfig_c (st : Int) (A0 : Option Addr) (n0 : Nat) (c0 : Nat) (xs0 : List Int) (A1 : Option Addr) (n1 : Nat) (c1 : Nat) (xs1 : List Int) (k0 : Int) (w : World) (h : RdS w (mgConfig A0 n0 xs0 A1 n1 xs1 k0)) (hn0 : n0 ≤ 1000000000) (hn1 : n1 ≤ 1000000000)   (h0 : 0 ≤ k0) (h1 : k0 ≤ 1000000000) :
    Calls Try.prog 35 #[.agg #[.int .i64 st, .slice A0 n0 c0, .slice A1 n1 c1], .int .i64 k0] w fun e w' => e = .returned (.int .i64 (k0 + ((n0 + n1 : Nat) : Int))) ∧ Below w.heap.size w w' := by
  have H := Lib.hid h; clear h
  go_enter Try.func35, Try.ntmps35
  go_wp2_with fail
  have T := Lib.hid (show Below w.heap.size w (w.alloc (.cells #[.int .i64 st, .slice A0 n0 c0, .slice A1 n1 c1] 59)) from below_size.alloc (Nat.le_refl _) _)
  refine (heldInt64S_r A0 n0 c0 xs0 _ _ (by exact ((RdS.below H.out T.out)).left) hn0 (by omega) (by omega)).mono ?_
  rintro e w1 ⟨rfl, hb⟩
  have y0_1 : w1.cell? ⟨w.heap.size, 2, none⟩ = some (.slice A1 n1 c1) := keepc hb (by simp)
  have rT := below_chain T.out T.out.size hb; clear T hb; have T := Lib.hid rT; clear rT
  go_wp2_with fail
  refine (heldInt64S_r A1 n1 c1 xs1 _ _ (by exact ((RdS.below H.out T.out)).right) hn1 (by omega) (by omega)).mono ?_
  rintro e w2 ⟨rfl, hb⟩
  have rT := below_chain T.out T.out.size hb; clear T hb; have T := Lib.hid rT; clear rT
  go_wp2_with fail
  go_ret
  exact ⟨by first | rfl | (simp [Int.add_assoc]; done), T.out⟩
end Go.Proofs.Ytmmgejnhfpfmnaa
