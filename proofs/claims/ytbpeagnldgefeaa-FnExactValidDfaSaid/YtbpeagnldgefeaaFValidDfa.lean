/-
  FnExactValidDfa returns true for every input.
-/
import Derived.Test.YtbpeagnldgefeaaLawDfa
import Derived.Test.YtbpeagnldgefeaaC28
import Derived.Test.YtbpeagnldgefeaaOpen
namespace Go.Proofs.Ytbpeagnldgefeaa
open Go.RowKit

theorem szOf_neg {n : Nat} (h : 1048576 < n) : szOf 1048576 n = -1 := by unfold szOf; rw [if_pos (by omega)]
theorem szOf_pos {n : Nat} (h : n ≤ 1048576) : szOf 1048576 n = 1048576 - n := by unfold szOf; rw [if_neg (by omega)]

set_option maxHeartbeats 1000000 in
theorem walkValidDfa (st : Int) (A : Option Addr) (n c : Nat) (xs : List Int) (sym : Int) (w : World) (h : RdI w A n xs) (hn : n ≤ 9223372036854775807) (_o : i64ok st) (_oo : ∀ x ∈ xs, i64ok x) (_os : i64ok sym) :
    Calls Try.prog 4 #[.agg #[.int .i64 st, .slice A n c], .int .i64 sym] w fun e w' => e = .returned (.bool true) ∧ Below w.heap.size w w' := by
  have H := Lib.hid h; clear h
  by_cases hbig : 1048576 < n
  · have hs := szOf_neg hbig
    go_enter Try.func4, Try.ntmps4
    go_wp2_with (go_at_call 17; refine (szDfa_c _ _ _ _ _ _ hn (by omega) (by omega)).mono ?_; rintro e w' ⟨rfl, hb⟩)
    go_ret
    exact ⟨rfl, (below_size.alloc (Nat.le_refl _) _).trans (hb.mono (by simp))⟩
  · have hsm : n ≤ 1048576 := by omega
    have hs := szOf_pos hsm
    have hs' : (0 : Int) ≤ 1048576 - (n : Int) := by omega
    go_enter Try.func4, Try.ntmps4
    go_wp2_with fail
    refine (szDfa_c _ _ _ _ _ _ hn (by omega) (by omega)).mono ?_
    rintro e w1 ⟨rfl, hb⟩
    rw [hs]
    have a0 : w1.cell? ⟨w.heap.size, 0, none⟩ = some (.int .i64 st) := keepc hb (new_cell _ _ _ 0)
    have a1 : w1.cell? ⟨w.heap.size, 1, none⟩ = some (.slice A n c) := keepc hb (new_cell _ _ _ 1)
    have r1 : RdI w1 A n xs := (H.out.alloc _).below hb
    have b1 : Below w.heap.size w w1 := (below_size.alloc (Nat.le_refl _) _).trans (hb.mono (by simp))
    clear hb hs
    have R := Lib.hid r1; have B := Lib.hid b1; clear r1 b1
    go_wp2_with fail
    refine (toDfa_c _ _ _ _ xs _ R.out (by omega)).mono ?_
    rintro e w2 ⟨g, rfl, q2, hb⟩
    have a0' := keepc hb a0; have a1' := keepc hb a1
    have r2 := R.out.below hb
    have b2 := below_chain B.out B.out.size hb
    clear a0 a1 R B hb
    have R := Lib.hid r2; have B := Lib.hid b2; have Q := Lib.hid q2; clear r2 b2 q2
    go_wp2_with fail
    refine (sValidDfa_c _ _ _ _ _ xs _ Q.out (by omega)).mono ?_
    rintro e w3 ⟨rfl, hb⟩
    have a0 := keepc hb a0'; have a1 := keepc hb a1'
    have r3 := R.out.below hb
    have b3 := below_chain B.out B.out.size hb
    clear a0' a1' R B Q hb
    have R := Lib.hid r3; have B := Lib.hid b3; clear r3 b3
    go_wp2_with fail
    refine (toDfa_c _ _ _ _ xs _ R.out (by omega)).mono ?_
    rintro e w4 ⟨g', rfl, q4, hb⟩
    have a0' := keepc hb a0; have a1' := keepc hb a1
    have r4 := R.out.below hb
    have b4 := below_chain B.out B.out.size hb
    clear a0 a1 R B hb
    have R := Lib.hid r4; have B := Lib.hid b4; have Q := Lib.hid q4; clear r4 b4 q4
    go_wp2_with fail
    refine (iValidDfa_c _ _ _ _ _ xs _ (by exact Q.out.alloc _) (by omega)).mono ?_
    rintro e w5 ⟨rfl, hb⟩
    have a0 := keepc hb (keepa _ a0'); have a1 := keepc hb (keepa _ a1')
    have x0 := keepc hb (new_cell _ _ _ 0); have x1 := keepc hb (new_cell _ _ _ 1)
    have r5 := (R.out.alloc _).below hb
    have q5 := (Q.out.alloc _).below hb
    have b5 := below_chain (B.out.alloc B.out.size _) (by simp; have := B.out.size; omega) hb
    clear a0' a1' R B Q hb
    have R := Lib.hid r5; have B := Lib.hid b5; have Q := Lib.hid q5; clear r5 b5 q5
    have hself : (dfaB st sym xs != dfaB st sym xs) = false := by simp
    go_wp2_with fail
    have fa0 := Ext.cell a0; have fa1 := Ext.cell a1
    have fx0 := Ext.cell x0; have fx1 := Ext.cell x1
    refine Mix.wp_region_mix [3, 3, 1, 1, 0] (fun w' => ∃ x : Ext w5, w' = x.w) (by kernel_rfl) (by kernel_rfl) (InExt.drew _) ?_
    repeat (first | (refine Mix.wpMix_read (by rfl) ?_; go_big_quiet_step (fail); refine wpQuiet_nil ?_) | (refine Mix.wpMix_pure (by rfl) ?_; go_big_quiet_step (fail); refine wpQuiet_nil ?_))
    refine Mix.wpMix_chg (by rfl) (fun K hK => ?_)
    go_wp2_with fail
    refine (toDfa_c _ _ _ _ xs _ (by exact R.out) (by omega)).mono ?_
    rintro e w6 ⟨g2, rfl, q6, hb⟩
    have e6 := below_of_drew hb
    go_wp2_with fail
    refine hK _ _ ⟨⟨_, e6⟩, rfl⟩ ?_
    clear hK K
    refine Mix.wpMix_chg (by rfl) (fun K hK => ?_)
    go_wp2_with fail
    refine (eqDfa_t _ _ _ _ _ _ _ xs _ (by exact Q.out.below e6) q6 (by omega)).mono ?_
    rintro e w7 ⟨rfl, hb7⟩
    have e7 : Below w5.heap.size w5 w7 := below_chain e6 e6.size hb7
    go_wp2_with fail
    refine hK _ _ ⟨⟨_, e7⟩, rfl⟩ ?_
    clear hK K
    repeat (first | (refine Mix.wpMix_read (by rfl) ?_; go_big_quiet_step (fail); refine wpQuiet_nil ?_) | (refine Mix.wpMix_pure (by rfl) ?_; go_big_quiet_step (fail); refine wpQuiet_nil ?_))
    (refine Mix.wpMix_nil ?_; try simp only [Exit.then])
    go_wp2
    go_ret
    exact ⟨rfl, below_chain B.out B.out.size e7⟩
end Go.Proofs.Ytbpeagnldgefeaa
