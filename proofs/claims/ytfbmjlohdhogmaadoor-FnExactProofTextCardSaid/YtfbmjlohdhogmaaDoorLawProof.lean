/-
  The helpers of the laws at Proof: sizes, copies, comparisons, marks.
-/
import Derived.Test.YtfbmjlohdhogmaaDoorSegI
import Derived.Test.YtfbmjlohdhogmaaDoorLawII
import Derived.Test.YtfbmjlohdhogmaaDoorLawI
import Derived.Test.YtfbmjlohdhogmaaDoorLawII
namespace Go.Proofs.YtfbmjlohdhogmaaDoor
open Go.RowKit

/-- the rows of a Proof -/
def sgProof (A0 : Option Addr) (n0 : Nat) (xs0 : List Int) (A1 : Option Addr) (n1 : Nat) (its1 : List It) : List Seg := [sgI A0 n0 xs0] ++ sgII A1 n1 its1
/-- .. and marked from k0 on -/
def mgProof (A0 : Option Addr) (n0 : Nat) (_xs0 : List Int) (A1 : Option Addr) (n1 : Nat) (its1 : List It) (k0 : Int) : List Seg := [⟨A0, n0, (marks (k0) n0).map i64⟩] ++ mgII A1 n1 its1 (k0 + (n0 : Nat))
theorem szProof_c (kd : Int) (A0 : Option Addr) (n0 : Nat) (c0 : Nat) (xs0 : List Int) (A1 : Option Addr) (n1 : Nat) (c1 : Nat) (its1 : List It) (left : Int) (w : World) (h : RdS w (sgProof A0 n0 xs0 A1 n1 its1)) (hn0 : n0 ≤ 9223372036854775807) (hn1 : n1 ≤ 9223372036854775807)  (hi1 : ∀ t ∈ its1, t.n ≤ 9223372036854775807) (hl : 0 ≤ left) (hl' : left ≤ 1000000000000) :
    Calls Tryd.prog 21 #[.agg #[.int .i64 kd, .slice A0 n0 c0, .slice A1 n1 c1], .int .i64 left] w fun e w' => e = .returned (.int .i64 (szOf left (n0 + n1 + sumN its1))) ∧ Below w.heap.size w w' := by
  have H := Lib.hid (RdSU.mk' h); clear h
  go_enter Tryd.func21, Tryd.ntmps21
  go_wp2_with fail
  refine (szInt64S_s A0 n0 c0 xs0 _ _ hn0 (by omega) (by omega)).mono ?_
  rintro e w1 ⟨rfl, hb⟩
  have y0_1 : w1.cell? ⟨w.heap.size, 2, none⟩ = some (.slice A1 n1 c1) := keepc hb (by simp)
  have B1 := Lib.hid (up1 hb); clear hb
  by_cases g0 : left < ((n0 : Nat) : Int)
  · have HE := Lib.hid (show szOf left (n0 + n1 + sumN its1) = -1 from szOf_neg' (by omega))
    rw [szOf_neg' g0]
    go_wp2_with fail
    go_ret
    exact ⟨by rw [HE.out]; rfl, B1.out⟩
  rw [szOf_pos' (by omega)]
  go_wp2_with fail
  refine (szInt64SS_s A1 n1 c1 its1 _ _ (by exact (RdSU.rd (H.out.belowB B1.out)).right) hn1 hi1 (by omega) (by omega)).mono ?_
  rintro e w2 ⟨rfl, hb⟩
  obtain ⟨N1, hN1⟩ : ∃ N, n1 + sumN its1 = N := ⟨_, rfl⟩
  rw [hN1]
  have HN1 := Lib.hid hN1; clear hN1
  have B2 := Lib.hid (below_chain B1.out B1.out.size hb); clear hb
  by_cases g1 : left - ((n0 : Nat) : Int) < ((N1 : Nat) : Int)
  · have HE := Lib.hid (show szOf left (n0 + n1 + sumN its1) = -1 from szOf_neg' (by have e1 := HN1.out; omega))
    rw [szOf_neg' g1]
    go_wp2_with fail
    go_ret
    exact ⟨by rw [HE.out]; rfl, B2.out⟩
  rw [szOf_pos' (by omega)]
  have HE := Lib.hid (show szOf left (n0 + n1 + sumN its1) = left - ((n0 : Nat) : Int) - ((N1 : Nat) : Int) from (szOf_pos' (by have e1 := HN1.out; omega)).trans (by have e1 := HN1.out; omega))
  go_wp2_with fail
  go_ret
  exact ⟨by rw [HE.out]; rfl, B2.out⟩
set_option maxHeartbeats 2000000 in
theorem toProof_c (kd : Int) (A0 : Option Addr) (n0 : Nat) (c0 : Nat) (xs0 : List Int) (A1 : Option Addr) (n1 : Nat) (c1 : Nat) (its1 : List It) (w : World) (h : RdS w (sgProof A0 n0 xs0 A1 n1 its1)) (hn0 : n0 ≤ 1000000000) (hn1 : n1 ≤ 1000000000)  (hi1 : ∀ t ∈ its1, t.n ≤ 1000000000) :
    Calls Tryd.prog 23 #[.agg #[.int .i64 kd, .slice A0 n0 c0, .slice A1 n1 c1]] w fun e w' => ∃ g0 g1 js1, e = .returned (.agg #[.int .i64 kd, .slice (some ⟨g0, 0, none⟩) n0 n0, .slice (some ⟨g1, 0, none⟩) n1 n1]) ∧ js1.map It.xs = its1.map It.xs ∧ WrS w' w.heap.size w'.heap.size (sgProof (some ⟨g0, 0, none⟩) n0 xs0 (some ⟨g1, 0, none⟩) n1 js1) ∧ Below w.heap.size w w' := by
  have H := Lib.hid (RdSU.mk' h); clear h
  go_enter Tryd.func23, Tryd.ntmps23
  go_wp2_with fail
  have B := Lib.hid (show Blk (((w.alloc (.cells #[.int .i64 kd, .slice A0 n0 c0, .slice A1 n1 c1] 50)).alloc (.cells #[.int .i64 0, .slice none 0 0, .slice none 0 0] 53)).alloc (.cells #[.int .i64 kd, .slice none 0 0, .slice none 0 0] 53)) w.heap.size 50 #[.int .i64 kd, .slice A0 n0 c0, .slice A1 n1 c1] from ((Blk.new w _ _).alloc _).alloc _)
  have R := Lib.hid (show Blk (((w.alloc (.cells #[.int .i64 kd, .slice A0 n0 c0, .slice A1 n1 c1] 50)).alloc (.cells #[.int .i64 0, .slice none 0 0, .slice none 0 0] 53)).alloc (.cells #[.int .i64 kd, .slice none 0 0, .slice none 0 0] 53)) (w.heap.size + 1) 53 #[.int .i64 0, .slice none 0 0, .slice none 0 0] by
    have := (Blk.new (w.alloc (.cells #[.int .i64 kd, .slice A0 n0 c0, .slice A1 n1 c1] 50)) 53 #[.int .i64 0, .slice none 0 0, .slice none 0 0]).alloc (.cells #[.int .i64 kd, .slice none 0 0, .slice none 0 0] 53)
    rw [World.size_alloc] at this
    exact this)
  have O := Lib.hid (show Blk (((w.alloc (.cells #[.int .i64 kd, .slice A0 n0 c0, .slice A1 n1 c1] 50)).alloc (.cells #[.int .i64 0, .slice none 0 0, .slice none 0 0] 53)).alloc (.cells #[.int .i64 kd, .slice none 0 0, .slice none 0 0] 53)) (w.heap.size + 1 + 1) 53 #[.int .i64 kd, .slice none 0 0, .slice none 0 0] by
    have := Blk.new ((w.alloc (.cells #[.int .i64 kd, .slice A0 n0 c0, .slice A1 n1 c1] 50)).alloc (.cells #[.int .i64 0, .slice none 0 0, .slice none 0 0] 53)) 53 #[.int .i64 kd, .slice none 0 0, .slice none 0 0]
    rw [World.size_alloc, World.size_alloc] at this
    exact this)
  have T := Lib.hid (show Below w.heap.size w (((w.alloc (.cells #[.int .i64 kd, .slice A0 n0 c0, .slice A1 n1 c1] 50)).alloc (.cells #[.int .i64 0, .slice none 0 0, .slice none 0 0] 53)).alloc (.cells #[.int .i64 kd, .slice none 0 0, .slice none 0 0] 53)) from (by have hzz := ((below_size : Below w.heap.size w w)).size; repeat' (first | (with_reducible exact (below_size : Below w.heap.size w w)) | (with_reducible refine Below.alloc ?_ ?_ _) | (with_reducible refine Below.setCell ?_ ?_ _) | (with_reducible refine below_drew ?_) | omega | (simp; done) | (simp; omega))))
  have hW : w.heap.size + 1 + 1 < (((w.alloc (.cells #[.int .i64 kd, .slice A0 n0 c0, .slice A1 n1 c1] 50)).alloc (.cells #[.int .i64 0, .slice none 0 0, .slice none 0 0] 53)).alloc (.cells #[.int .i64 kd, .slice none 0 0, .slice none 0 0] 53)).heap.size := by simp
  refine (toInt64S_s A0 n0 c0 xs0 _ (by exact (RdSU.rd (H.out.belowB T.out)).left) hn0).mono ?_
  rintro e w1 ⟨g0, rfl, hw, hb⟩
  have rB := B.out.keep hb; have rR := R.out.keep hb; have rO := O.out.keep hb; have rT := below_chain T.out T.out.size hb
  have hw1 := hb.size
  simp only [World.size_alloc] at hw1 hw
  have hW : w.heap.size + 1 + 1 + 1 ≤ w1.heap.size := by omega
  clear B R O T
  have B := Lib.hid rB; have R := Lib.hid rR; have O := Lib.hid rO; have T := Lib.hid rT; have Q0 := Lib.hid hw
  clear rB rR rO rT hw hb
  have oc1 := O.out.cell 1; have of1 := O.out.frozen 1
  simp at oc1
  have oc2 := O.out.cell 2; have of2 := O.out.frozen 2
  simp at oc2
  have bc2 := B.out.cell 2
  simp at bc2
  go_wp2_with fail
  clear oc1 of1
  clear oc2 of2
  clear bc2
  have rB := B.out.far (p := ⟨w.heap.size + 1 + 1, 1, none⟩) (by simp <;> omega) (.slice (some ⟨g0, 0, none⟩) n0 n0)
  have rR := R.out.far (p := ⟨w.heap.size + 1 + 1, 1, none⟩) (by simp <;> omega) (.slice (some ⟨g0, 0, none⟩) n0 n0)
  have rO := O.out.set_ 1 (.slice (some ⟨g0, 0, none⟩) n0 n0)
  simp at rO
  have rT := T.out.setCell (p := ⟨w.heap.size + 1 + 1, 1, none⟩) (by simp; omega) (.slice (some ⟨g0, 0, none⟩) n0 n0)
  have rQ0 := Q0.out.set_far (p := ⟨w.heap.size + 1 + 1, 1, none⟩) (.inl (by simp <;> omega)) (.slice (some ⟨g0, 0, none⟩) n0 n0)
  clear B R O T Q0
  have B := Lib.hid rB; have R := Lib.hid rR; have O := Lib.hid rO; have T := Lib.hid rT; have Q0 := Lib.hid rQ0
  clear rB rR rO rT rQ0
  refine (toInt64SS_s A1 n1 c1 its1 _ (by exact (RdSU.rd (H.out.belowB T.out)).right) hn1 hi1).mono ?_
  rintro e w2 ⟨g1, js1, rfl, hx1, hw, hb⟩
  have rB := B.out.keep hb; have rR := R.out.keep hb; have rO := O.out.keep hb; have rT := below_chain T.out T.out.size hb
  have rQ0 := Q0.out.below hb
  have hw2 := hb.size
  simp only [World.size_setCell] at hw2 hw
  clear B R O T Q0
  have B := Lib.hid rB; have R := Lib.hid rR; have O := Lib.hid rO; have T := Lib.hid rT; have Q1 := Lib.hid hw; have Q0 := Lib.hid rQ0
  clear rB rR rO rT hw hb rQ0
  have oc0 := O.out.cell 0; have of0 := O.out.frozen 0
  simp at oc0
  have oc1 := O.out.cell 1; have of1 := O.out.frozen 1
  simp at oc1
  have oc2 := O.out.cell 2; have of2 := O.out.frozen 2
  simp at oc2
  have rc0 := R.out.cell 0; have rf0 := R.out.frozen 0
  simp at rc0
  have rc1 := R.out.cell 1; have rf1 := R.out.frozen 1
  simp at rc1
  have rc2 := R.out.cell 2; have rf2 := R.out.frozen 2
  simp at rc2
  go_wp2_with fail
  refine bodyPost_ret (v := .agg #[.int .i64 kd, .slice (some ⟨g0, 0, none⟩) n0 n0, .slice (some ⟨g1, 0, none⟩) n1 n1]) (by simp [results, Tryd.results23, go_sem, rc0, rc1, rc2]) rfl ⟨g0, g1, js1, rfl, hx1, ?_, (by have hzz := (T.out).size; repeat' (first | (with_reducible exact T.out) | (with_reducible refine Below.alloc ?_ ?_ _) | (with_reducible refine Below.setCell ?_ ?_ _) | (with_reducible refine below_drew ?_) | omega | (simp; done) | (simp; omega)))⟩
  exact ((((((Q0.out.set_far (.inl (by simp <;> omega)) _).set_far (.inl (by simp <;> omega)) _).set_far (.inl (by simp <;> omega)) _).set_far (.inl (by simp <;> omega)) _)).append (((((Q1.out.set_far (.inl (by simp <;> omega)) _).set_far (.inl (by simp <;> omega)) _).set_far (.inl (by simp <;> omega)) _).set_far (.inl (by simp <;> omega)) _)) (by omega) (by omega)).wider (by omega) (by simp)
set_option maxHeartbeats 2000000 in
theorem eqProof_t (kd : Int) (A0 : Option Addr) (n0 : Nat) (c0 : Nat) (xs0 : List Int) (A1 : Option Addr) (n1 : Nat) (c1 : Nat) (its1 : List It) (A0' : Option Addr) (n0' : Nat) (c0' : Nat) (A1' : Option Addr) (n1' : Nat) (c1' : Nat) (its1' : List It) (w : World) (h : RdS w (sgProof A0 n0 xs0 A1 n1 its1)) (h' : RdS w (sgProof A0' n0' xs0 A1' n1' its1')) (hn0 : n0 ≤ 1000000000) (hn1 : n1 ≤ 1000000000)  (hi1 : ∀ t ∈ its1, t.n ≤ 1000000000) (he1 : its1.map It.xs = its1'.map It.xs) :
    Calls Tryd.prog 25 #[.agg #[.int .i64 kd, .slice A0 n0 c0, .slice A1 n1 c1], .agg #[.int .i64 kd, .slice A0' n0' c0', .slice A1' n1' c1']] w fun e w' => e = .returned (.bool true) ∧ Below w.heap.size w w' := by
  have H := Lib.hid h; have H' := Lib.hid h'; clear h h'
  have g0 : (kd != kd) = false := by simp
  go_enter Tryd.func25, Tryd.ntmps25
  go_wp2_with fail
  have T := Lib.hid (show Below w.heap.size w ((w.alloc (.cells #[.int .i64 kd, .slice A0 n0 c0, .slice A1 n1 c1] 53)).alloc (.cells #[.int .i64 kd, .slice A0' n0' c0', .slice A1' n1' c1'] 53)) from (below_size.alloc (Nat.le_refl _) _).alloc (by simp) _)
  refine (eqInt64S_s A0 n0 c0 xs0 A0' n0' c0' _ (by exact ((RdS.below H.out T.out)).left) (by exact ((RdS.below H'.out T.out)).left) hn0).mono ?_
  rintro e w1 ⟨rfl, hb⟩
  have y0_1 : w1.cell? ⟨w.heap.size, 2, none⟩ = some (.slice A1 n1 c1) := keepc hb (by simp)
  have z0_1 : w1.cell? ⟨w.heap.size + 1, 2, none⟩ = some (.slice A1' n1' c1') := keepc hb (by simp)
  have rT := below_chain T.out T.out.size hb; clear T hb; have T := Lib.hid rT; clear rT
  go_wp2_with fail
  refine (eqInt64SS_s A1 n1 c1 its1 A1' n1' c1' its1' _ (by exact ((RdS.below H.out T.out)).right) (by exact ((RdS.below H'.out T.out)).right) hn1 hi1 he1).mono ?_
  rintro e w2 ⟨rfl, hb⟩
  have rT := below_chain T.out T.out.size hb; clear T hb; have T := Lib.hid rT; clear rT
  go_wp2_with fail
  go_ret
  exact ⟨rfl, T.out⟩
end Go.Proofs.YtfbmjlohdhogmaaDoor
