/-
  FnExactProofName returns true for every input.
-/
import Derived.Test.YtbpeagnldgefeaaC01
import Derived.Test.YtbpeagnldgefeaaOpen
namespace Go.Proofs.Ytbpeagnldgefeaa
open Go.RowKit

def pname (k : Int) : ByteArray :=
  if k = 1 then ⟨#[104, 97, 108, 116]⟩ else if k = 2 then ⟨#[99, 121, 99, 108, 101]⟩ else if k = 3 then ⟨#[115, 104, 105, 102, 116]⟩ else if k = 4 then ⟨#[98, 97, 99, 107, 119, 97, 114, 100]⟩
  else if k = 5 then ⟨#[115, 101, 103, 109, 101, 110, 116]⟩ else if k = 6 then ⟨#[98, 111, 117, 110, 99, 101, 114]⟩ else if k = 7 then ⟨#[97, 117, 116, 111, 109, 97, 116, 111, 110]⟩
  else if k = 8 then ⟨#[99, 111, 110, 116, 101, 120, 116, 115]⟩ else ⟨#[]⟩

set_option maxHeartbeats 1000000 in
theorem sProofName_c (k : Int) (w : World) : Calls Try.prog 15 #[.int .i64 k] w fun e w' => e = .returned (.string (pname k)) ∧ Below w.heap.size w w' := by
  cases hk : inB k 1 8
  · have h := inB_f hk
    have hp : pname k = ⟨#[]⟩ := by unfold pname; simp only [show ¬ k = 1 by omega, show ¬ k = 2 by omega, show ¬ k = 3 by omega, show ¬ k = 4 by omega, show ¬ k = 5 by omega, show ¬ k = 6 by omega, show ¬ k = 7 by omega, show ¬ k = 8 by omega, if_false]
    rw [hp]
    go_enter Try.func15, Try.ntmps15
    go_wp2_with (go_at_call 54; refine (l00In_c _ _ _ _).mono ?_; rintro e w' ⟨rfl, rfl⟩)
    go_ret
    exact ⟨rfl, below_size⟩
  · have h := inB_t hk
    have h8 : k = 1 ∨ k = 2 ∨ k = 3 ∨ k = 4 ∨ k = 5 ∨ k = 6 ∨ k = 7 ∨ k = 8 := by omega
    clear h
    rcases h8 with rfl | rfl | rfl | rfl | rfl | rfl | rfl | rfl
    all_goals
      go_enter Try.func15, Try.ntmps15
      go_wp2_with (first | (go_at_call 54; refine (l00In_c _ _ _ _).mono ?_; rintro e w' ⟨rfl, rfl⟩) | go_in)
      go_ret
      exact ⟨rfl, below_size.alloc (Nat.le_refl _) _⟩

set_option maxHeartbeats 1000000 in
theorem iProofName_c (k : Int) (w : World) : Calls Try.prog 16 #[.int .i64 k] w fun e w' => e = .returned (.string (pname k)) ∧ Below w.heap.size w w' := by
  cases hk : inB k 1 8
  · have h := inB_f hk
    have hp : pname k = ⟨#[]⟩ := by unfold pname; simp only [show ¬ k = 1 by omega, show ¬ k = 2 by omega, show ¬ k = 3 by omega, show ¬ k = 4 by omega, show ¬ k = 5 by omega, show ¬ k = 6 by omega, show ¬ k = 7 by omega, show ¬ k = 8 by omega, if_false]
    rw [hp]
    go_enter Try.func16, Try.ntmps16
    go_wp2_with (go_at_call 56; refine (within_c _ _ _ _).mono ?_; rintro e w' ⟨rfl, rfl⟩)
    go_ret
    exact ⟨rfl, below_size⟩
  · have h := inB_t hk
    have h8 : k = 1 ∨ k = 2 ∨ k = 3 ∨ k = 4 ∨ k = 5 ∨ k = 6 ∨ k = 7 ∨ k = 8 := by omega
    clear h
    rcases h8 with rfl | rfl | rfl | rfl | rfl | rfl | rfl | rfl
    all_goals
      go_enter Try.func16, Try.ntmps16
      go_wp2_with (first | (go_at_call 56; refine (within_c _ _ _ _).mono ?_; rintro e w' ⟨rfl, rfl⟩) | go_in)
      go_ret
      exact ⟨rfl, below_size.alloc (Nat.le_refl _) _⟩

theorem walkProofName (k : Int) (w : World) (_h : i64ok k) : Calls Try.prog 3 #[.int .i64 k] w fun e w' => e = .returned (.bool true) ∧ Below w.heap.size w w' := by
  have hself : ((pname k).data.toList == (pname k).data.toList) = true := by simp
  go_enter Try.func3, Try.ntmps3
  go_wp2_with fail
  refine (sProofName_c _ _).mono ?_
  rintro e w1 ⟨rfl, hb1⟩
  go_wp2_with fail
  refine (iProofName_c _ _).mono ?_
  rintro e w2 ⟨rfl, hb2⟩
  generalize pname k = s at *
  go_wp2
  go_ret
  exact ⟨rfl, below_chain hb1 hb1.size hb2⟩
end Go.Proofs.Ytbpeagnldgefeaa
