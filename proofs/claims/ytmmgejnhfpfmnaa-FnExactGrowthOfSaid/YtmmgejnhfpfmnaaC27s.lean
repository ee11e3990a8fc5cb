/-
  Contracts of chapter 27 (RepeatsIn): the words' lengths.
-/
import Derived.Test.YtmmgejnhfpfmnaaC27r
import Derived.Test.YtmmgejnhfpfmnaaMixA
namespace Go.Proofs.Ytmmgejnhfpfmnaa
open Go.RowKit

def lenN (n1 n2 n3 : Nat) : Bool := decide (0 < n1 ∧ n1 ≤ 40 ∧ n1 + 1 ≤ n2 ∧ n2 ≤ n1 + 8 ∧ (n3 : Int) - n2 = (n2 : Int) - n1)
theorem lenB_eq {a b c : List Int} {n1 n2 n3 : Nat} (h1 : a.length = n1) (h2 : b.length = n2) (h3 : c.length = n3) : lenB a b c = lenN n1 n2 n3 := by subst h1; subst h2; subst h3; rfl
set_option maxHeartbeats 1000000 in
theorem l27Lengths_c (A B C : Option Addr) (n1 c1 n2 c2 n3 c3 : Nat) (w : World) (h1 : n1 ≤ 1000000000) (h2 : n2 ≤ 1000000000) (h3 : n3 ≤ 1000000000) :
    Calls Try.prog 46 #[.slice A n1 c1, .slice B n2 c2, .slice C n3 c3] w fun e w' => e = .returned (.bool (lenN n1 n2 n3)) ∧ Qt w w' := by
  have v1 : IntKind.i64.wrap ((n2 : Int) - n1) = (n2 : Int) - n1 := IntWalk.i64_in _ (by omega)
  have v2 : IntKind.i64.wrap ((n3 : Int) - n2) = (n3 : Int) - n2 := IntWalk.i64_in _ (by omega)
  obtain ⟨q, hq⟩ : ∃ q, lenN n1 n2 n3 = q := ⟨_, rfl⟩
  rw [hq]
  have HQ := Lib.hid hq; clear hq
  have fin : ∀ b : Bool, (b = true ↔ (0 < n1 ∧ n1 ≤ 40 ∧ n1 + 1 ≤ n2 ∧ n2 ≤ n1 + 8 ∧ (n3 : Int) - n2 = (n2 : Int) - n1)) → b = q := fun b hb => by
    rw [← HQ.out, lenN]
    cases b
    · exact (decide_eq_false fun h => by have := hb.2 h; cases this).symm
    · exact (decide_eq_true (hb.1 rfl)).symm
  have FIN := Lib.hid fin; clear fin
  by_cases k1 : 0 < n1
  · have e1 : decide ((0 : Int) < (n1 : Int)) = true := decide_eq_true (by omega)
    by_cases k2 : n1 ≤ 40
    · have e2 : decide ((n1 : Int) ≤ 40) = true := decide_eq_true (by omega)
      by_cases k3 : n1 + 1 ≤ n2
      · have e3 : decide ((1 : Int) ≤ (n2 : Int) - n1) = true := decide_eq_true (by omega)
        by_cases k4 : n2 ≤ n1 + 8
        · have e4 : decide ((n2 : Int) - n1 ≤ 8) = true := decide_eq_true (by omega)
          go_enter Try.func46, Try.ntmps46
          go_wp2_with fail
          go_ret
          refine ⟨congrArg (fun b => Ending.returned (.bool b)) (FIN.out _ ?_), (by first | exact Qt.refl _ | exact ⟨_, rfl⟩ | exact Qt.drewN ⟨_, rfl⟩ _)⟩
          simp; omega
        · have e4 : decide ((n2 : Int) - n1 ≤ 8) = false := decide_eq_false (by omega)
          go_enter Try.func46, Try.ntmps46
          go_wp2_with fail
          go_ret
          refine ⟨congrArg (fun b => Ending.returned (.bool b)) (FIN.out _ ?_), (by first | exact Qt.refl _ | exact ⟨_, rfl⟩ | exact Qt.drewN ⟨_, rfl⟩ _)⟩
          simp; omega
      · have e3 : decide ((1 : Int) ≤ (n2 : Int) - n1) = false := decide_eq_false (by omega)
        go_enter Try.func46, Try.ntmps46
        go_wp2_with fail
        go_ret
        refine ⟨congrArg (fun b => Ending.returned (.bool b)) (FIN.out _ ?_), (by first | exact Qt.refl _ | exact ⟨_, rfl⟩ | exact Qt.drewN ⟨_, rfl⟩ _)⟩
        simp; omega
    · have e2 : decide ((n1 : Int) ≤ 40) = false := decide_eq_false (by omega)
      go_enter Try.func46, Try.ntmps46
      go_wp2_with fail
      go_ret
      refine ⟨congrArg (fun b => Ending.returned (.bool b)) (FIN.out _ ?_), (by first | exact Qt.refl _ | exact ⟨_, rfl⟩ | exact Qt.drewN ⟨_, rfl⟩ _)⟩
      simp; omega
  · have e1 : decide ((0 : Int) < (n1 : Int)) = false := decide_eq_false (by omega)
    go_enter Try.func46, Try.ntmps46
    go_wp2_with fail
    go_ret
    refine ⟨congrArg (fun b => Ending.returned (.bool b)) (FIN.out _ ?_), (by first | exact Qt.refl _ | exact ⟨_, rfl⟩ | exact Qt.drewN ⟨_, rfl⟩ _)⟩
    simp; omega
/-- a formula tape's lists, in memory of the call's own -/
def FoR (D : FR) (lo : Nat) (w' : World) (A0 : Option Addr) (n0 : Nat) (its0 : List It) (A1 : Option Addr) (n1 : Nat) (its1 : List It) (A2 : Option Addr) (n2 : Nat) : Prop :=
  WrS w' lo w'.heap.size (sgII A0 n0 its0 ++ sgII A1 n1 its1 ++ [sgI A2 n2 D.2.2.2.2.2]) ∧ its0.map It.xs = D.2.2.2.1 ∧ its1.map It.xs = D.2.2.2.2.1 ∧ n0 ≤ 1000 ∧ n1 ≤ 1000 ∧ n2 ≤ 1000 ∧ (∀ t ∈ its0, t.n ≤ 100000) ∧ (∀ t ∈ its1, t.n ≤ 100000)
/-- a formula tape, or none -/
def FbOut (s : Int) (o : Option Fd) (w : World) (e : Ending) (w' : World) : Prop :=
  ∃ q0 q1 q2 A0 n0 c0 its0 A1 n1 c1 its1 A2 n2 c2, e = .returned (.tuple #[.agg #[i64 q0, i64 q1, i64 q2, .slice A0 n0 c0, .slice A1 n1 c1, .slice A2 n2 c2], .bool o.isSome]) ∧
    (∀ F, o = some F → (q0 = (formF s F).1 ∧ q1 = (formF s F).2.1 ∧ q2 = (formF s F).2.2.1) ∧ FoR (formF s F) w.heap.size w' A0 n0 its0 A1 n1 its1 A2 n2) ∧ Below w.heap.size w w'
/-- a formula tape and a code -/
def FoOut (R : FR × Int) (w : World) (e : Ending) (w' : World) : Prop :=
  ∃ A0 n0 c0 its0 A1 n1 c1 its1 A2 n2 c2, e = .returned (.tuple #[.agg #[i64 R.1.1, i64 R.1.2.1, i64 R.1.2.2.1, .slice A0 n0 c0, .slice A1 n1 c1, .slice A2 n2 c2], i64 R.2]) ∧ FoR R.1 w.heap.size w' A0 n0 its0 A1 n1 its1 A2 n2 ∧ Below w.heap.size w w'
theorem FoOut.bad {w w' : World} (k : Int) (h : Below w.heap.size w w') : FoOut (zeroF, k) w (.returned (.tuple #[.agg #[i64 0, i64 0, i64 0, .slice none 0 0, .slice none 0 0, .slice none 0 0], i64 k])) w' := by
  refine ⟨none, 0, 0, [], none, 0, 0, [], none, 0, 0, rfl, ⟨⟨fun s hs => ?_, ?_⟩, rfl, rfl, by omega, by omega, by omega, (fun t ht => by cases ht), (fun t ht => by cases ht)⟩, h⟩
  · simp [sgII, sgI, zeroF] at hs
    subst hs
    exact Wr.nil
  · simp [sgII, sgI, zeroF, apart]
end Go.Proofs.Ytmmgejnhfpfmnaa
