/-
  Contracts of chapter 26: MatchesPartial.
-/
import Derived.Test.YtfahdgmlhinabaaC26
import Derived.Test.YtfahdgmlhinabaaC05c
namespace Go.Proofs.Ytfahdgmlhinabaa
open Go.RowKit

/-- the symbol at a distance from the head -/
def cellD (xs ys : List Int) (d : Int) : Int := if d < 0 then xs.getD (-1 - d).toNat 0 else ys.getD d.toNat 0
def mfrom (xs ys : List Int) (a : Int) : Nat → List Int → Bool
  | _, [] => true
  | k, x :: l => (cellD xs ys ((k : Int) - a) == x) && mfrom xs ys a (k + 1) l
def mpB (sy st : Int) (rs : List Rule3) (s a : Int) (cs : List Int) (t : Int) (xs ys : List Int) : Bool := vpartB sy st rs s a cs && confB sy st t xs ys && (t == s) && mfrom xs ys a 0 cs

theorem symbolAt_c (A : Option Addr) (n cp k : Nat) (xs : List Int) (w : World) (h : RdI w A n xs) (_hn : n ≤ 1000000000) (_hk : k ≤ 1000000000) :
    Calls Try.prog 136 #[.slice A n cp, .int .i64 k] w fun e w' => e = .returned (.int .i64 (xs.getD k 0)) ∧ w = w' := by
  have HL := Lib.hid h.len
  by_cases hlt : k < n
  · obtain ⟨ad, x, rfl, hab, hx, hc⟩ := h.at_ hlt
    have HF := Lib.hid (getD_at hx)
    clear hx h
    go_enter Try.func136, Try.ntmps136
    go_wp2_with fail
    go_ret
    exact ⟨by rw [HF.out]; rfl, rfl⟩
  · have HF := Lib.hid (show xs.getD k 0 = 0 by rw [List.getD_eq_getElem?_getD, List.getElem?_eq_none (by rw [HL.out]; omega)]; rfl)
    clear h
    go_enter Try.func136, Try.ntmps136
    go_wp2_with fail
    go_ret
    exact ⟨by rw [HF.out]; rfl, rfl⟩
end Go.Proofs.Ytfahdgmlhinabaa
