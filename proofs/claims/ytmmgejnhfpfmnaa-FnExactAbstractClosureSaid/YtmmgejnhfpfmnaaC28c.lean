/-
  Contracts of chapter 28 (automata): RunDfa and what it calls.
-/
import Derived.Test.YtmmgejnhfpfmnaaC28
namespace Go.Proofs.Ytmmgejnhfpfmnaa
open Go.RowKit

def nextOf (xs : List Int) (i : Int) : Int := xs.getD i.toNat 0
def runF (sym : Int) (xs : List Int) : List Int → Int → Int
  | [], now => now
  | s :: ws, now => runF sym xs ws (nextOf xs (now * sym + s))
theorem nextOf_at {xs : List Int} {k : Nat} {x : Int} (h : xs[k]? = some x) : nextOf xs (k : Int) = x := by
  simp [nextOf, List.getD_eq_getElem?_getD, h]
theorem step_bd {now sym s st : Int} (h1 : 2 ≤ sym ∧ sym ≤ 6) (h2 : 1 ≤ st ∧ st ≤ 20) (h3 : 0 ≤ now ∧ now ≤ st - 1) (h4 : 0 ≤ s ∧ s ≤ sym - 1) : 0 ≤ now * sym ∧ now * sym ≤ 114 ∧ 0 ≤ now * sym + s ∧ now * sym + s < st * sym := by
  have a := Int.mul_nonneg h3.1 (show 0 ≤ sym by omega)
  have b := Int.mul_le_mul_of_nonneg_right (show now ≤ st - 1 from h3.2) (show 0 ≤ sym by omega)
  rw [Int.sub_mul] at b
  have c := Int.mul_le_mul (a := now) (b := sym) (c := 19) (d := 6) (by omega) (by omega) (by omega) (by omega)
  omega
/-- what a valid automaton's run needs -/
structure DfaOk (st sym : Int) (xs : List Int) : Prop where
  sy : 2 ≤ sym ∧ sym ≤ 6
  stt : 1 ≤ st ∧ st ≤ 20
  len : (xs.length : Int) = st * sym
  all : ∀ x ∈ xs, 0 ≤ x ∧ x ≤ st - 1
theorem DfaOk.of {st sym : Int} {xs : List Int} (h : dfaB st sym xs = true) : DfaOk st sym xs := by
  obtain ⟨a, b, c, _, d⟩ := dfaB_parts h; exact ⟨a, b, c, d⟩

theorem dfaTo_c (st : Int) (A : Option Addr) (n c : Nat) (xs : List Int) (now s sym : Int) (w : World) (h : RdI w A n xs) (h0 : 0 ≤ now * sym) (h1 : now * sym ≤ 1000000) (h2 : 0 ≤ now * sym + s) (h3 : now * sym + s < n) (hn : n ≤ 1000000) :
    Calls Try.prog 136 #[.agg #[.int .i64 st, .slice A n c], .int .i64 now, .int .i64 s, .int .i64 sym] w fun e w' => e = .returned (.int .i64 (nextOf xs (now * sym + s))) ∧ Below w.heap.size w w' := by
  obtain ⟨k, hk⟩ := Int.eq_ofNat_of_zero_le h2
  have hkn : k < n := by omega
  obtain ⟨ad, x, rfl, hab, hx, hc⟩ := h.at_ hkn
  have HV := Lib.hid (show nextOf xs (now * sym + s) = x by rw [hk]; exact nextOf_at hx)
  have hc' : ∀ o, (w.alloc o).cell? (ad.add k) = some (.int .i64 x) := fun o => keepa o hc
  clear h hx h2 h3
  have hk0 : (0 : Int) ≤ (k : Int) := by omega
  have hk1 : (k : Int) < (n : Int) := by omega
  go_enter Try.func136, Try.ntmps136
  go_wp2
  go_ret
  exact ⟨by rw [HV.out]; rfl, below_size.alloc (Nat.le_refl _) _⟩



def runR (st sym : Int) (xs ws : List Int) : Int × Int :=
  if dfaB st sym xs = true then (if decide (400 < ws.length) || !allB 0 (sym - 1) ws then (0, 2) else (runF sym xs ws 0, 0)) else (0, 1)


end Go.Proofs.Ytmmgejnhfpfmnaa
