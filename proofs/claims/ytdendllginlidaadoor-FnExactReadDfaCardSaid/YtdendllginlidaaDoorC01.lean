/-
  Contracts of the small functions on numbers and lists: within, l00In, size, allWithin.
-/
import Derived.Test.YtdendllginlidaaDoorProg
import Derived.Test.YtdendllginlidaaDoorBase
import Derived.Test.YtdendllginlidaaDoorMix
import Derived.WalkKit
import Derived.WalkLawsBesides
import Derived.WalkSpells
import Derived.Deep.QuietTactic
import Derived.BigQuiet
namespace Go.Proofs.YtdendllginlidaaDoor
open Go.RowKit

theorem info_i64 : (Tryd.prog.info? 2).map (fun i => (i.zero, i.size, i.bytes)) = some (some (.int .i64 0), 1, 8) := by kernel_rfl

def inB (n lo hi : Int) : Bool := decide (lo ≤ n) && decide (n ≤ hi)
theorem inB_t {n lo hi : Int} (h : inB n lo hi = true) : lo ≤ n ∧ n ≤ hi := by simpa [inB] using h
theorem inB_f {n lo hi : Int} (h : inB n lo hi = false) : n < lo ∨ hi < n := by
  simp [inB] at h
  by_cases h1 : lo ≤ n
  · exact .inr (h h1)
  · exact .inl (by omega)
theorem inB_of {n lo hi : Int} (h1 : lo ≤ n) (h2 : n ≤ hi) : inB n lo hi = true := by simp [inB, h1, h2]
theorem inB_not {n lo hi : Int} (h : ¬ (lo ≤ n ∧ n ≤ hi)) : inB n lo hi = false := by
  cases hb : inB n lo hi
  · rfl
  · exact absurd (inB_t hb) h

def allB (lo hi : Int) : List Int → Bool
  | [] => true
  | x :: xs => inB x lo hi && allB lo hi xs
theorem allB_mem {lo hi : Int} : ∀ {xs : List Int}, allB lo hi xs = true → ∀ x ∈ xs, lo ≤ x ∧ x ≤ hi
  | [], _, x, hx => by cases hx
  | y :: ys, h, x, hx => by
    simp only [allB, Bool.and_eq_true] at h
    rcases List.mem_cons.1 hx with rfl | hx
    · exact inB_t h.1
    · exact allB_mem h.2 x hx

theorem within_c (n lo hi : Int) (w : World) :
    Calls Tryd.prog 28 #[.int .i64 n, .int .i64 lo, .int .i64 hi] w fun e w' => e = .returned (.bool (inB n lo hi)) ∧ w = w' := by
  by_cases h : lo ≤ n <;> by_cases h' : n ≤ hi <;> simp only [inB, h, h', decide_true, decide_false, Bool.and_self, Bool.and_true, Bool.and_false]
  all_goals
    first | have h1 : decide (lo ≤ n) = true := by simpa using h
          | have h1 : decide (lo ≤ n) = false := by simpa using h
    first | have h2 : decide (n ≤ hi) = true := by simpa using h'
          | have h2 : decide (n ≤ hi) = false := by simpa using h'
    go_enter Tryd.func28, Tryd.ntmps28
    go_wp2
    go_ret
    exact ⟨rfl, rfl⟩
theorem within_b (n lo hi : Int) (b : Bool) (hb : inB n lo hi = b) (w : World) :
    Calls Tryd.prog 28 #[.int .i64 n, .int .i64 lo, .int .i64 hi] w fun e w' => e = .returned (.bool b) ∧ w = w' := by subst hb; exact within_c n lo hi w
theorem l00In_c (n lo hi : Int) (w : World) :
    Calls Tryd.prog 23 #[.int .i64 n, .int .i64 lo, .int .i64 hi] w fun e w' => e = .returned (.bool (inB n lo hi)) ∧ w = w' := by
  by_cases h : lo ≤ n <;> by_cases h' : n ≤ hi <;> simp only [inB, h, h', decide_true, decide_false, Bool.and_self, Bool.and_true, Bool.and_false]
  all_goals
    first | have h1 : decide (lo ≤ n) = true := by simpa using h
          | have h1 : decide (lo ≤ n) = false := by simpa using h
    first | have h2 : decide (n ≤ hi) = true := by simpa using h'
          | have h2 : decide (n ≤ hi) = false := by simpa using h'
    go_enter Tryd.func23, Tryd.ntmps23
    go_wp2
    go_ret
    exact ⟨rfl, rfl⟩
theorem l00In_b (n lo hi : Int) (b : Bool) (hb : inB n lo hi = b) (w : World) :
    Calls Tryd.prog 23 #[.int .i64 n, .int .i64 lo, .int .i64 hi] w fun e w' => e = .returned (.bool b) ∧ w = w' := by subst hb; exact l00In_c n lo hi w
theorem sizeI_c (A : Option Addr) (n c : Nat) (w : World) (_hn : n ≤ 1000000000000) :
    Calls Tryd.prog 16 #[.slice A n c] w fun e w' => e = .returned (.int .i64 n) ∧ w = w' := by
  go_enter Tryd.func16, Tryd.ntmps16
  go_wp2
  go_ret
  exact ⟨rfl, rfl⟩
theorem allWithin_c (A : Option Addr) (n c : Nat) (xs : List Int) (lo hi : Int) (w : World) (h : RdI w A n xs) (hn : n ≤ 1000000000000) :
    Calls Tryd.prog 29 #[.slice A n c, .int .i64 lo, .int .i64 hi] w fun e w' => e = .returned (.bool (allB lo hi xs)) ∧ w = w' := by
  have HL := Lib.hid h.len
  have H := Lib.hid h; clear h
  go_enter Tryd.func29, Tryd.ntmps29
  go_wp2
  go_loop [11] (fun i => ∃ k : Nat, k ≤ n ∧ i = .int .i64 k ∧ Hid (allB lo hi xs = allB lo hi (xs.drop k))) (fun i => n - (intOf i).toNat)
  case atStart => exact ⟨0, by omega, rfl, rfl⟩
  case round =>
    obtain ⟨k, hk, rfl, hr⟩ := hrel
    by_cases hlt : k < n
    · obtain ⟨ad, x, rfl, hb, hx, hc⟩ := H.out.at_ hlt
      have Hx := Lib.hid hx; clear hx
      cases hin : inB x lo hi
      · go_wp2_with (go_at_call 28; refine (within_c _ _ _ _).mono ?_; rintro e w' ⟨rfl, rfl⟩)
        go_ret
        refine ⟨?_, rfl⟩
        rw [hr.out, drop_at Hx.out, allB, hin]; rfl
      · go_wp2_with (go_at_call 28; refine (within_c _ _ _ _).mono ?_; rintro e w' ⟨rfl, rfl⟩)
        go_round
        case rel => exact ⟨k + 1, by omega, by go_num, by rw [hr.out, drop_at Hx.out, allB, hin]; rfl⟩
        case measure => simp [intOf]; omega
    · go_wp2
      go_ret
      exact ⟨by rw [hr.out, List.drop_eq_nil_of_le (by rw [HL.out]; omega)]; rfl, rfl⟩
theorem allWithin_b (A : Option Addr) (n c : Nat) (xs : List Int) (lo hi : Int) (b : Bool) (hb : allB lo hi xs = b) (w : World) (h : RdI w A n xs) (hn : n ≤ 1000000000000) :
    Calls Tryd.prog 29 #[.slice A n c, .int .i64 lo, .int .i64 hi] w fun e w' => e = .returned (.bool b) ∧ w = w' := by subst hb; exact allWithin_c A n c xs lo hi w h hn
theorem symbolsOk_c (n : Int) (w : World) :
    Calls Tryd.prog 15 #[.int .i64 n] w fun e w' => e = .returned (.bool (inB n 2 6)) ∧ w = w' := by
  go_enter Tryd.func15, Tryd.ntmps15
  go_wp2_with (go_at_call 28; refine (within_c _ _ _ _).mono ?_; rintro e w' ⟨rfl, rfl⟩)
  go_ret
  exact ⟨rfl, rfl⟩
theorem symbolsOk_b (n : Int) (b : Bool) (hb : inB n 2 6 = b) (w : World) :
    Calls Tryd.prog 15 #[.int .i64 n] w fun e w' => e = .returned (.bool b) ∧ w = w' := by subst hb; exact symbolsOk_c n w
end Go.Proofs.YtdendllginlidaaDoor
