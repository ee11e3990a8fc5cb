/-
  The helpers of the laws at Proof: sizes, copies, comparisons, marks.
-/
import Derived.Test.YtdendllginlidaaGreatDoorSegI
import Derived.Test.YtdendllginlidaaGreatDoorLawII
import Derived.Test.YtdendllginlidaaGreatDoorLawI
import Derived.Test.YtdendllginlidaaGreatDoorLawII
namespace Go.Proofs.YtdendllginlidaaGreatDoor
open Go.RowKit

/-- the rows of a Proof -/
def sgProof (A0 : Option Addr) (n0 : Nat) (xs0 : List Int) (A1 : Option Addr) (n1 : Nat) (its1 : List It) : List Seg := [sgI A0 n0 xs0] ++ sgII A1 n1 its1
/-- .. and marked from k0 on -/
def mgProof (A0 : Option Addr) (n0 : Nat) (_xs0 : List Int) (A1 : Option Addr) (n1 : Nat) (its1 : List It) (k0 : Int) : List Seg := [⟨A0, n0, (marks (k0) n0).map i64⟩] ++ mgII A1 n1 its1 (k0 + (n0 : Nat))
set_option maxHeartbeats 2000000 in
theorem eqProof_t (kd : Int) (A0 : Option Addr) (n0 : Nat) (c0 : Nat) (xs0 : List Int) (A1 : Option Addr) (n1 : Nat) (c1 : Nat) (its1 : List It) (A0' : Option Addr) (n0' : Nat) (c0' : Nat) (A1' : Option Addr) (n1' : Nat) (c1' : Nat) (its1' : List It) (w : World) (h : RdS w (sgProof A0 n0 xs0 A1 n1 its1)) (h' : RdS w (sgProof A0' n0' xs0 A1' n1' its1')) (hn0 : n0 ≤ 1000000000) (hn1 : n1 ≤ 1000000000)  (hi1 : ∀ t ∈ its1, t.n ≤ 1000000000) (he1 : its1.map It.xs = its1'.map It.xs) :
    Calls Tryz.prog 16 #[.agg #[.int .i64 kd, .slice A0 n0 c0, .slice A1 n1 c1], .agg #[.int .i64 kd, .slice A0' n0' c0', .slice A1' n1' c1']] w fun e w' => e = .returned (.bool true) ∧ Below w.heap.size w w' := by
  have H := Lib.hid h; have H' := Lib.hid h'; clear h h'
  have g0 : (kd != kd) = false := by simp
  go_enter Tryz.func16, Tryz.ntmps16
  go_wp2_with fail
  have T := Lib.hid (show Below w.heap.size w ((w.alloc (.cells #[.int .i64 kd, .slice A0 n0 c0, .slice A1 n1 c1] 42)).alloc (.cells #[.int .i64 kd, .slice A0' n0' c0', .slice A1' n1' c1'] 42)) from (below_size.alloc (Nat.le_refl _) _).alloc (by simp) _)
  refine (eqInt64S_s A0 n0 c0 xs0 A0' n0' c0' _ (by exact ((RdS.below H.out T.out)).left) (by exact ((RdS.below H'.out T.out)).left) hn0).mono ?_
  rintro e w1 ⟨rfl, hb⟩
  have y0_1 : w1.cell? ⟨w.heap.size, 2, none⟩ = some (.slice A1 n1 c1) := keepc hb (by simp)
  have z0_1 : w1.cell? ⟨w.heap.size + 1, 2, none⟩ = some (.slice A1' n1' c1') := keepc hb (by simp)
  have rT := below_chain T.out T.out.size hb; clear T hb; have T := Lib.hid rT; clear rT
  go_wp2_with fail
  refine (eqInt64SS_s A1 n1 c1 its1 A1' n1' c1' its1' _ (by exact ((RdS.below H.out T.out)).right) (by exact ((RdS.below H'.out T.out)).right) hn1 hi1 he1).mono ?_
  rintro e w2 ⟨rfl, hb⟩
  have rT := below_chain T.out T.out.size hb; clear T hb; have T := Lib.hid rT; clear rT
  go_wp2_with fail
  go_ret
  exact ⟨rfl, T.out⟩
set_option maxHeartbeats 2000000 in
theorem markProof_c (kd : Int) (A0 : Option Addr) (n0 : Nat) (c0 : Nat) (xs0 : List Int) (A1 : Option Addr) (n1 : Nat) (c1 : Nat) (its1 : List It) (lo hi : Nat) (k0 : Int) (w : World) (h : WrS w lo hi (sgProof A0 n0 xs0 A1 n1 its1)) (hn0 : n0 ≤ 1000000000) (hn1 : n1 ≤ 1000000000)  (hi1 : ∀ t ∈ its1, t.n ≤ 1000000000) (hs1 : sumN its1 ≤ 1000000000) (hbx : hi ≤ w.heap.size) (h0 : 0 ≤ k0) (h1 : k0 ≤ 1000000000) :
    Calls Tryz.prog 17 #[.agg #[.int .i64 kd, .slice A0 n0 c0, .slice A1 n1 c1], .int .i64 k0] w fun e w' => e = .returned (.int .i64 (k0 + ((n0 + sumN its1 : Nat) : Int))) ∧ WrS w' lo hi (mgProof A0 n0 xs0 A1 n1 its1 k0) ∧ KeepR lo hi w w' := by
  have H := Lib.hid (h.alloc (.cells #[.int .i64 kd, .slice A0 n0 c0, .slice A1 n1 c1] 42)); clear h
  go_enter Tryz.func17, Tryz.ntmps17
  go_wp2_with fail
  have K := Lib.hid (show KeepR lo hi w (w.alloc (.cells #[.int .i64 kd, .slice A0 n0 c0, .slice A1 n1 c1] 42)) from KeepR.of_below (below_size.alloc (Nat.le_refl _) _))
  have C := Lib.hid (show Blk (w.alloc (.cells #[.int .i64 kd, .slice A0 n0 c0, .slice A1 n1 c1] 42)) w.heap.size 42 #[.int .i64 kd, .slice A0 n0 c0, .slice A1 n1 c1] from Blk.new w _ _)
  have H0 := Lib.hid (show WrS _ lo hi ([] ++ ([sgI A0 n0 xs0] ++ ((sgII A1 n1 its1)))) by have := H.out; simpa [sgProof] using this); clear H
  refine (markInt64S_g A0 n0 c0 xs0 lo hi ([]) ((sgII A1 n1 its1)) _ _ H0.out hn0 (by omega) (by omega)).mono ?_
  rintro e w1 ⟨rfl, hw, hk⟩
  have Q0 := Lib.hid hw; have rK := K.out.trans hk; have rC := C.out; clear hw
  have y0_1 : w1.cell? ⟨w.heap.size, 2, none⟩ = some (.slice A1 n1 c1) := hk.cell (.inr hbx) (by simp)
  clear rC hk K; have K := Lib.hid rK; clear rK
  go_wp2_with fail
  have H1 := Lib.hid (show WrS _ lo hi (([] ++ ([⟨A0, n0, (marks (k0) n0).map i64⟩])) ++ (sgII A1 n1 its1 ++ ([]))) by have := Q0.out; simpa [List.append_assoc] using this); clear Q0
  refine (markInt64SS_g A1 n1 c1 its1 lo hi ([] ++ ([⟨A0, n0, (marks (k0) n0).map i64⟩])) ([]) _ _ H1.out hn1 hi1 hs1 (by omega) (by omega)).mono ?_
  rintro e w2 ⟨rfl, hw, hk⟩
  have Q1 := Lib.hid hw; have rK := K.out.trans hk; have rC := C.out; clear hw
  clear rC hk K; have K := Lib.hid rK; clear rK
  go_wp2_with fail
  go_ret
  refine ⟨by first | rfl | (simp [Int.add_assoc]; done), ?_, K.out⟩
  have := Q1.out
  simpa [mgProof, List.append_assoc, Int.add_assoc] using this
set_option maxHeartbeats 2000000 in
theorem heldProof_c (kd : Int) (A0 : Option Addr) (n0 : Nat) (c0 : Nat) (xs0 : List Int) (A1 : Option Addr) (n1 : Nat) (c1 : Nat) (its1 : List It) (k0 : Int) (w : World) (h : RdS w (mgProof A0 n0 xs0 A1 n1 its1 k0)) (hn0 : n0 ≤ 1000000000) (hn1 : n1 ≤ 1000000000)  (hi1 : ∀ t ∈ its1, t.n ≤ 1000000000) (hs1 : sumN its1 ≤ 1000000000) (h0 : 0 ≤ k0) (h1 : k0 ≤ 1000000000) :
    Calls Tryz.prog 18 #[.agg #[.int .i64 kd, .slice A0 n0 c0, .slice A1 n1 c1], .int .i64 k0] w fun e w' => e = .returned (.int .i64 (k0 + ((n0 + sumN its1 : Nat) : Int))) ∧ Below w.heap.size w w' := by
  have H := Lib.hid h; clear h
  go_enter Tryz.func18, Tryz.ntmps18
  go_wp2_with fail
  have T := Lib.hid (show Below w.heap.size w (w.alloc (.cells #[.int .i64 kd, .slice A0 n0 c0, .slice A1 n1 c1] 42)) from below_size.alloc (Nat.le_refl _) _)
  refine (heldInt64S_r A0 n0 c0 xs0 _ _ (by exact ((RdS.below H.out T.out)).left) hn0 (by omega) (by omega)).mono ?_
  rintro e w1 ⟨rfl, hb⟩
  have y0_1 : w1.cell? ⟨w.heap.size, 2, none⟩ = some (.slice A1 n1 c1) := keepc hb (by simp)
  have rT := below_chain T.out T.out.size hb; clear T hb; have T := Lib.hid rT; clear rT
  go_wp2_with fail
  refine (heldInt64SS_r A1 n1 c1 its1 _ _ (by exact ((RdS.below H.out T.out)).right) hn1 hi1 hs1 (by omega) (by omega)).mono ?_
  rintro e w2 ⟨rfl, hb⟩
  have rT := below_chain T.out T.out.size hb; clear T hb; have T := Lib.hid rT; clear rT
  go_wp2_with fail
  go_ret
  exact ⟨by first | rfl | (simp [Int.add_assoc]; done), T.out⟩
end Go.Proofs.YtdendllginlidaaGreatDoor
