/-
  Contracts of chapter 25: ValidProof.
-/
import Derived.Test.YtfahdgmlhinabaaC03
namespace Go.Proofs.Ytfahdgmlhinabaa
open Go.RowKit

def proofB (kd : Int) (xs : List Int) (xss : List (List Int)) : Bool := inB kd 1 8 && decide ((xs.length : Int) ≤ 300) && decide ((xss.length : Int) ≤ 300) && allB (-1000000000000) 1000000000000 xs && wordsX xss
/-- a proof behind a pointer -/
structure ProofP (w : World) (g : Nat) (kd : Int) (A : Option Addr) (n cp : Nat) (xs : List Int) (A' : Option Addr) (n' cp' : Nat) (its : List It) : Prop where
  c0 : w.cell? ⟨g, 0, none⟩ = some (i64 kd)
  c1 : w.cell? ⟨g, 1, none⟩ = some (.slice A n cp)
  c2 : w.cell? ⟨g, 2, none⟩ = some (.slice A' n' cp')
  rd : RdI w A n xs
  rd' : RdS w (sgII A' n' its)

set_option maxHeartbeats 2000000 in
set_option maxRecDepth 100000 in
theorem iValidProof_c (kd : Int) (A : Option Addr) (n cp : Nat) (xs : List Int) (A' : Option Addr) (n' cp' : Nat) (its : List It) (w : World) (h : RdS w ([sgI A n xs] ++ sgII A' n' its)) (hn : n ≤ 1000000000 ∧ n' ≤ 1000000000) (hi : ∀ t ∈ its, t.n ≤ 1000000000) :
    Calls Try.prog 121 #[.agg #[.int .i64 kd, .slice A n cp, .slice A' n' cp']] w fun e w' => e = .returned (.bool (proofB kd xs (its.map It.xs))) ∧ Below w.heap.size w w' := by
  obtain ⟨q, hq⟩ : ∃ q, proofB kd xs (its.map It.xs) = q := ⟨_, rfl⟩
  rw [hq]
  have HL := Lib.hid (show xs.length = n from RdI.len h.left.head)
  have HQ := Lib.hid (show (inB kd 1 8 && decide ((n : Int) ≤ 300) && decide ((n' : Int) ≤ 300) && allB (-1000000000000) 1000000000000 xs && wordsB its) = q by rw [← hq, proofB, HL.out, List.length_map, RdII.len h.right]; rfl)
  have H := Lib.hid h; have HI := Lib.hid hi; clear h hq hi
  cases i1 : inB kd 1 8
  · have HF := Lib.hid (show false = q by rw [← HQ.out, i1]; simp)
    go_enter Try.func121, Try.ntmps121
    go_wp2_with fail
    refine (within_b _ _ _ _ i1 _).mono ?_
    rintro e w' ⟨rfl, rfl⟩
    go_wp2_with fail
    go_ret
    exact ⟨by rw [← HF.out]; rfl, below_size.alloc (Nat.le_refl _) _⟩
  by_cases i2 : (n : Int) ≤ 300
  · by_cases i3 : (n' : Int) ≤ 300
    · have HF := Lib.hid (show (allB (-1000000000000) 1000000000000 xs && wordsB its) = q by rw [← HQ.out, i1, decide_eq_true i2, decide_eq_true i3]; simp)
      clear HQ
      obtain ⟨u, hu⟩ : ∃ u, allB (-1000000000000) 1000000000000 xs = u := ⟨_, rfl⟩
      obtain ⟨v, hv⟩ : ∃ v, wordsB its = v := ⟨_, rfl⟩
      have HU := Lib.hid (show (u && v) = q by rw [← HF.out, hu, hv])
      have HV := Lib.hid hv
      clear HF hv
      cases u
      · go_enter Try.func121, Try.ntmps121
        go_wp2_with fail
        refine (within_b _ _ _ _ i1 _).mono ?_
        rintro e w' ⟨rfl, rfl⟩
        go_wp2_with fail
        refine (allWithin_b A n cp xs _ _ false hu _ (Rd.alloc H.out.left.head _) (by omega)).mono ?_
        rintro e w' ⟨rfl, rfl⟩
        go_wp2_with fail
        go_ret
        exact ⟨by rw [← HU.out]; rfl, below_size.alloc (Nat.le_refl _) _⟩
      · go_enter Try.func121, Try.ntmps121
        go_wp2_with fail
        refine (within_b _ _ _ _ i1 _).mono ?_
        rintro e w' ⟨rfl, rfl⟩
        go_wp2_with fail
        refine (allWithin_b A n cp xs _ _ true hu _ (Rd.alloc H.out.left.head _) (by omega)).mono ?_
        rintro e w' ⟨rfl, rfl⟩
        go_wp2_with fail
        refine (areWords_c A' n' cp' its v _ (H.out.right.alloc _) hn.2 HI.out HV.out).mono ?_
        rintro e w' ⟨rfl, rfl⟩
        go_wp2_with fail
        go_ret
        exact ⟨by rw [← HU.out]; simp, below_size.alloc (Nat.le_refl _) _⟩
    · have HF := Lib.hid (show false = q by rw [← HQ.out, decide_eq_false i3]; simp)
      go_enter Try.func121, Try.ntmps121
      go_wp2_with fail
      refine (within_b _ _ _ _ i1 _).mono ?_
      rintro e w' ⟨rfl, rfl⟩
      go_wp2_with fail
      go_ret
      exact ⟨by rw [← HF.out]; rfl, below_size.alloc (Nat.le_refl _) _⟩
  · have HF := Lib.hid (show false = q by rw [← HQ.out, decide_eq_false i2]; simp)
    go_enter Try.func121, Try.ntmps121
    go_wp2_with fail
    refine (within_b _ _ _ _ i1 _).mono ?_
    rintro e w' ⟨rfl, rfl⟩
    go_wp2_with fail
    go_ret
    exact ⟨by rw [← HF.out]; rfl, below_size.alloc (Nat.le_refl _) _⟩
end Go.Proofs.Ytfahdgmlhinabaa
