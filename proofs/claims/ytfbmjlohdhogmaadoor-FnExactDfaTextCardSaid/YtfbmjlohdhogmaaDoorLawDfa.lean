/-
  The helpers of the laws at Dfa: copy, compare, mark, look at the marks, count.
-/
import Derived.Test.YtfbmjlohdhogmaaDoorLawI
import Derived.Test.YtfbmjlohdhogmaaDoorMix
namespace Go.Proofs.YtfbmjlohdhogmaaDoor
open Go.RowKit

theorem szDfa_c (st : Int) (A : Option Addr) (n c : Nat) (left : Int) (w : World) (hn : n ≤ 9223372036854775807) (hl : 0 ≤ left) (hl' : left ≤ 1000000000000) :
    Calls Tryd.prog 8 #[.agg #[.int .i64 st, .slice A n c], .int .i64 left] w fun e w' => e = .returned (.int .i64 (szOf left n)) ∧ Below w.heap.size w w' := by
  by_cases h : szOf left n < 0
  · have HE := Lib.hid (show szOf left n = -1 by unfold szOf at h ⊢; split <;> omega)
    go_enter Tryd.func8, Tryd.ntmps8
    go_wp2_with (go_at_call 36; refine (szInt64S_c _ _ _ _ _ hn hl hl').mono ?_; rintro e w' ⟨rfl, rfl⟩)
    go_ret
    exact ⟨by rw [HE.out]; rfl, below_size.alloc (Nat.le_refl _) _⟩
  · go_enter Tryd.func8, Tryd.ntmps8
    go_wp2_with (go_at_call 36; refine (szInt64S_c _ _ _ _ _ hn hl hl').mono ?_; rintro e w' ⟨rfl, rfl⟩)
    go_ret
    exact ⟨rfl, below_size.alloc (Nat.le_refl _) _⟩

theorem toDfa_c (st : Int) (A : Option Addr) (n c : Nat) (xs : List Int) (w : World) (h : RdI w A n xs) (hn : n ≤ 1000000000000) :
    Calls Tryd.prog 10 #[.agg #[.int .i64 st, .slice A n c]] w fun e w' => ∃ g, e = .returned (.agg #[.int .i64 st, .slice (some ⟨g, 0, none⟩) n n]) ∧ Wr w' w.heap.size w'.heap.size (some ⟨g, 0, none⟩) n (xs.map i64) ∧ Below w.heap.size w w' := by
  have H := Lib.hid h; clear h
  go_enter Tryd.func10, Tryd.ntmps10
  go_wp2_with fail
  refine (toInt64S_c _ _ _ xs _ (by exact ((H.out.alloc _).alloc _).alloc _) hn).mono ?_
  rintro e w1 ⟨rfl, hblk, hb⟩
  obtain ⟨hc, hf⟩ := bcell hb
  have hz := hb.size
  simp at hz
  have HB := Lib.hid hblk
  have Hb := Lib.hid hb
  clear hblk hb
  go_wp2_with fail
  refine bodyPost_ret (v := .agg #[.int .i64 st, .slice (some ⟨w.heap.size + 1 + 1 + 1, 0, none⟩) n n]) (by simp [results, Tryd.results10, go_sem, hc]) rfl ⟨_, rfl, ?_, ?_⟩
  · have hB := HB.out
    simp only [World.size_alloc] at hB
    refine Wr.wider (hi := w1.heap.size) (((hB.set_far (by simp) _).set_far (by simp) _).set_far (by simp) _) (by omega) (by simp)
  · refine (((Below.trans ?_ (Hb.out.mono (by simp only [World.size_alloc]; omega))).setCell (by simp; omega) _).setCell (by simp) _).setCell (by simp) _
    exact ((below_size.alloc (Nat.le_refl _) _).alloc (by simp) _).alloc (by simp; omega) _

theorem eqDfa_c (st st' : Int) (A A' : Option Addr) (n n' c c' : Nat) (xs ys : List Int) (w : World) (h : RdI w A n xs) (h' : RdI w A' n' ys) (hn : n ≤ 1000000000000) :
    Calls Tryd.prog 12 #[.agg #[.int .i64 st, .slice A n c], .agg #[.int .i64 st', .slice A' n' c']] w fun e w' => e = .returned (.bool (decide (st = st') && eqL xs ys)) ∧ Below w.heap.size w w' := by
  have H := Lib.hid h
  have H' := Lib.hid h'
  clear h h'
  by_cases hs : st = st'
  · have hs' : (st != st') = false := by simp [hs]
    have HS := Lib.hid hs; clear hs
    cases he : eqL xs ys
    all_goals
      go_enter Tryd.func12, Tryd.ntmps12
      go_wp2_with (go_at_call 44; refine (eqInt64S_c _ _ _ _ _ _ xs ys _ (by exact (H.out.alloc _).alloc _) (by exact (H'.out.alloc _).alloc _) hn).mono ?_; rintro e w' ⟨rfl, hq⟩)
      go_ret
      exact ⟨by simp [HS.out], ((below_size.alloc (Nat.le_refl _) _).alloc (by simp) _).trans (hq.below _)⟩
  · have hs' : (st != st') = true := by simpa using hs
    have HS := Lib.hid hs; clear hs
    go_enter Tryd.func12, Tryd.ntmps12
    go_wp2
    go_ret
    exact ⟨by simp [HS.out], (below_size.alloc (Nat.le_refl _) _).alloc (by simp) _⟩

theorem eqDfa_t (st : Int) (A A' : Option Addr) (n n' c c' : Nat) (xs : List Int) (w : World) (h : RdI w A n xs) (h' : RdI w A' n' xs) (hn : n ≤ 1000000000000) :
    Calls Tryd.prog 12 #[.agg #[.int .i64 st, .slice A n c], .agg #[.int .i64 st, .slice A' n' c']] w fun e w' => e = .returned (.bool true) ∧ Below w.heap.size w w' :=
  (eqDfa_c st st A A' n n' c c' xs xs w h h' hn).mono fun e w' ⟨he, hq⟩ => ⟨by rw [he]; simp [eqL], hq⟩

end Go.Proofs.YtfbmjlohdhogmaaDoor
