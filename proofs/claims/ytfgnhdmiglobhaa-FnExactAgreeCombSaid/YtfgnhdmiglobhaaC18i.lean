/-
  Contracts of chapter 18: AgreeComb of the program.
-/
import Derived.Test.YtfgnhdmiglobhaaC18h
import Derived.Test.YtfgnhdmiglobhaaC18f
import Derived.Test.YtfgnhdmiglobhaaJoin
namespace Go.Proofs.Ytfgnhdmiglobhaa
open Go.RowKit

/-- a slice of terms -/
structure ItP where
  A : Option Addr
  n : Nat
  c : Nat
  xs : List (Int × Int)
def hdP (t : ItP) : Value := .slice t.A t.n t.c
def RdP (w : World) (A : Option Addr) (m : Nat) (its : List ItP) : Prop := Rd w A m (its.map hdP) ∧ ∀ t ∈ its, Rd2 w t.A t.n t.xs ∧ t.n ≤ 1000000000
theorem RdP.below {w w' : World} {A : Option Addr} {m : Nat} {its : List ItP} (h : RdP w A m its) (hb : Below w.heap.size w w') : RdP w' A m its := ⟨h.1.below hb, fun t ht => ⟨(h.2 t ht).1.below hb, (h.2 t ht).2⟩⟩
theorem RdP.at_ {w : World} {A : Option Addr} {m : Nat} {its : List ItP} (h : RdP w A m its) {j : Nat} (hj : j < m) : ∃ ad t, A = some ad ∧ its[j]? = some t ∧ w.cell? (ad.add j) = some (.slice t.A t.n t.c) ∧ Rd2 w t.A t.n t.xs ∧ t.n ≤ 1000000000 := by
  have hl : its.length = m := by have := h.1.1; simpa using this
  have ht : its[j]? = some its[j] := List.getElem?_eq_getElem (by omega)
  obtain ⟨ad, v, e, hb, hv, hc⟩ := h.1.at_ hj
  rw [List.getElem?_map, ht] at hv
  injection hv with hv; subst hv
  exact ⟨ad, _, e, ht, hc, h.2 _ (List.getElem_mem (by omega))⟩
def badI : Nat → List ItP → Int
  | _, [] => -1
  | k, t :: l => if validC t.xs then badI (k + 1) l else k
set_option maxHeartbeats 1000000 in
theorem indexCombs_c (A : Option Addr) (n cp : Nat) (its : List ItP) (R : Int) (w : World) (h : RdP w A n its) (hn : n ≤ 1000000) (hR : badI 0 its = R) :
    Calls Try.prog 92 #[.slice A n cp, .func (.func 69) #[] #[]] w fun e w' => e = .returned (.int .i64 R) ∧ Below w.heap.size w w' := by
  have hl : its.length = n := by have := h.1.1; simpa using this
  have HL := Lib.hid hl; have H := Lib.hid h; have HR := Lib.hid hR
  clear h hl hR
  have HC1 := Lib.hid (show ∀ (A : Option Addr) (n c : Nat) (xs : List (Int × Int)) (q : Bool) (w : World), Rd2 w A n xs → n ≤ 1000000000 → validC xs = q → Calls Try.prog 69 #[.slice A n c] w fun e w' => e = .returned (.bool (!q)) ∧ Below w.heap.size w w' from fun A n c xs q w h hn hq => by
    have HH := Lib.hid h; have HQ := Lib.hid hq
    clear h hq
    go_enter Try.func69, Try.ntmps69
    go_wp2_with fail
    refine (validComb_c _ _ _ xs q _ HH.out hn HQ.out).mono ?_
    rintro e w1 ⟨rfl, hb1⟩
    go_wp2_with fail
    go_ret
    exact ⟨rfl, hb1⟩)
  go_enter Try.func92, Try.ntmps92
  go_wp2_with fail
  go_loopw [8] (fun iv wr => ∃ k : Nat, k ≤ n ∧ iv = .int .i64 k ∧ Hid (badI k (its.drop k) = R) ∧ Below w.heap.size w wr) (fun iv _ => n - (intOf iv).toNat)
  case atStart => exact ⟨0, by omega, rfl, HR.out, below_size⟩
  case round =>
    obtain ⟨k, hk, rfl, hr, hb⟩ := hrel
    have HB := Lib.hid hb
    by_cases hlt : k < n
    · obtain ⟨ad, t, rfl, ht, hc, hrd, htn⟩ := (H.out.below hb).at_ hlt
      have HS := Lib.hid (show (if validC t.xs = true then badI (k + 1) (its.drop (k + 1)) else (k : Int)) = R by rw [← hr.out, drop_at ht]; rfl)
      have RD := Lib.hid hrd
      obtain ⟨tA, tn, tc, txs⟩ := t
      simp only at hc HS RD htn
      clear ht hrd hr hb
      cases hv : validC txs
      · have HV := Lib.hid hv
        have HG := Lib.hid (show (k : Int) = R by rw [← HS.out, hv]; rfl)
        clear hv
        go_wp2_with fail
        refine (HC1.out _ _ _ txs false _ RD.out htn HV.out).mono ?_
        rintro e w1 ⟨rfl, hb1⟩
        go_wp2_with fail
        go_ret
        exact ⟨by rw [← HG.out]; rfl, below_chain HB.out HB.out.size hb1⟩
      · have HV := Lib.hid hv
        have HG := Lib.hid (show badI (k + 1) (its.drop (k + 1)) = R by rw [← HS.out, hv]; rfl)
        clear hv
        go_wp2_with fail
        refine (HC1.out _ _ _ txs true _ RD.out htn HV.out).mono ?_
        rintro e w1 ⟨rfl, hb1⟩
        go_wp2_with fail
        go_roundw
        case rel => exact ⟨k + 1, by omega, by go_num, HG.out, below_chain HB.out HB.out.size hb1⟩
        case measure => simp [intOf]; omega
    · have HG := Lib.hid (show (-1 : Int) = R by rw [← hr.out, List.drop_eq_nil_of_le (by rw [HL.out]; omega)]; rfl)
      clear hr hb
      go_wp2_with fail
      go_ret
      exact ⟨by rw [← HG.out]; rfl, HB.out⟩
theorem areCombs2_c (g cp : Nat) (s t : ItP) (q : Bool) (w : World) (h : RdP w (some ⟨g, 0, none⟩) 2 [s, t]) (hq : (validC s.xs && validC t.xs) = q) :
    Calls Try.prog 42 #[.slice (some ⟨g, 0, none⟩) 2 cp] w fun e w' => e = .returned (.bool q) ∧ Below w.heap.size w w' := by
  have HR := Lib.hid (show decide (0 ≤ badI 0 [s, t]) = !q by
    rw [← hq, badI, badI, badI]
    cases validC s.xs <;> cases validC t.xs <;> simp)
  obtain ⟨R, hR⟩ : ∃ R, badI 0 [s, t] = R := ⟨_, rfl⟩
  rw [hR] at HR
  have HI := Lib.hid (indexCombs_c _ 2 cp _ R w h (by omega) hR)
  have HC := Lib.hid (show Calls Try.prog 68 #[.slice (some ⟨g, 0, none⟩) 2 cp, .func (.func 69) #[] #[]] w fun e w' => e = .returned (.bool (!q)) ∧ Below w.heap.size w w' by
    clear h hR hq
    go_enter Try.func68, Try.ntmps68
    go_wp2_with fail
    refine HI.out.mono ?_
    rintro e w1 ⟨rfl, hb1⟩
    go_wp2_with fail
    go_ret
    exact ⟨by rw [← HR.out]; rfl, hb1⟩)
  clear h hR hq HR HI
  go_enter Try.func42, Try.ntmps42
  go_wp2_with fail
  refine HC.out.mono ?_
  rintro e w1 ⟨rfl, hb1⟩
  go_wp2_with fail
  go_ret
  exact ⟨by simp, hb1⟩
end Go.Proofs.Ytfgnhdmiglobhaa
