/-
  The helpers of the laws at Dfa: copy, compare, mark, look at the marks, count.
-/
import Derived.Test.YtdendllginlidaaDoorLawI
import Derived.Test.YtdendllginlidaaDoorMix
namespace Go.Proofs.YtdendllginlidaaDoor
open Go.RowKit


theorem eqDfa_c (st st' : Int) (A A' : Option Addr) (n n' c c' : Nat) (xs ys : List Int) (w : World) (h : RdI w A n xs) (h' : RdI w A' n' ys) (hn : n ≤ 1000000000000) :
    Calls Tryd.prog 6 #[.agg #[.int .i64 st, .slice A n c], .agg #[.int .i64 st', .slice A' n' c']] w fun e w' => e = .returned (.bool (decide (st = st') && eqL xs ys)) ∧ Below w.heap.size w w' := by
  have H := Lib.hid h
  have H' := Lib.hid h'
  clear h h'
  by_cases hs : st = st'
  · have hs' : (st != st') = false := by simp [hs]
    have HS := Lib.hid hs; clear hs
    cases he : eqL xs ys
    all_goals
      go_enter Tryd.func6, Tryd.ntmps6
      go_wp2_with (go_at_call 19; refine (eqInt64S_c _ _ _ _ _ _ xs ys _ (by exact (H.out.alloc _).alloc _) (by exact (H'.out.alloc _).alloc _) hn).mono ?_; rintro e w' ⟨rfl, hq⟩)
      go_ret
      exact ⟨by simp [HS.out], ((below_size.alloc (Nat.le_refl _) _).alloc (by simp) _).trans (hq.below _)⟩
  · have hs' : (st != st') = true := by simpa using hs
    have HS := Lib.hid hs; clear hs
    go_enter Tryd.func6, Tryd.ntmps6
    go_wp2
    go_ret
    exact ⟨by simp [HS.out], (below_size.alloc (Nat.le_refl _) _).alloc (by simp) _⟩

theorem eqDfa_t (st : Int) (A A' : Option Addr) (n n' c c' : Nat) (xs : List Int) (w : World) (h : RdI w A n xs) (h' : RdI w A' n' xs) (hn : n ≤ 1000000000000) :
    Calls Tryd.prog 6 #[.agg #[.int .i64 st, .slice A n c], .agg #[.int .i64 st, .slice A' n' c']] w fun e w' => e = .returned (.bool true) ∧ Below w.heap.size w w' :=
  (eqDfa_c st st A A' n n' c c' xs xs w h h' hn).mono fun e w' ⟨he, hq⟩ => ⟨by rw [he]; simp [eqL], hq⟩

theorem markDfa_c (st : Int) (A : Option Addr) (n c lo hi : Nat) (vs : List Value) (k0 : Int) (w : World) (h : Wr w lo hi A n vs) (hn : n ≤ 1000000000000) (h0 : 0 ≤ k0) (h1 : k0 ≤ 1000000000000) :
    Calls Tryd.prog 7 #[.agg #[.int .i64 st, .slice A n c], .int .i64 k0] w fun e w' => e = .returned (.int .i64 (k0 + n)) ∧ Wr w' lo hi A n ((marks k0 n).map i64) ∧ KeepR lo hi w w' := by
  have H := Lib.hid h; clear h
  go_enter Tryd.func7, Tryd.ntmps7
  go_wp2_with (go_at_call 20; refine (markInt64S_c _ _ _ lo hi vs _ _ (by exact H.out.below (below_size.alloc (Nat.le_refl _) _)) hn h0 h1).mono ?_; rintro e w1 ⟨rfl, hw, hb⟩)
  go_ret
  exact ⟨rfl, hw, (KeepR.of_below (below_size.alloc (Nat.le_refl _) _)).trans hb⟩

theorem heldDfa_c (st : Int) (A : Option Addr) (n c : Nat) (k0 : Int) (w : World) (h : RdI w A n (marks k0 n)) (hn : n ≤ 1000000000000) (h0 : 0 ≤ k0) (h1 : k0 ≤ 1000000000000) :
    Calls Tryd.prog 8 #[.agg #[.int .i64 st, .slice A n c], .int .i64 k0] w fun e w' => e = .returned (.int .i64 (k0 + n)) ∧ Below w.heap.size w w' := by
  have H := Lib.hid h; clear h
  go_enter Tryd.func8, Tryd.ntmps8
  go_wp2_with (go_at_call 21; refine (heldInt64S_s _ _ _ _ _ (by exact H.out.alloc _) hn h0 h1).mono ?_; rintro e w1 ⟨rfl, rfl⟩)
  go_ret
  exact ⟨rfl, below_size.alloc (Nat.le_refl _) _⟩
end Go.Proofs.YtdendllginlidaaDoor
