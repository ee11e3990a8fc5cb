/-
  Equal lists of numbers, and a list of numbers in a list of lists.
-/
import Derived.Test.YtcbcjhfeidkeaaaSegII
import Derived.Test.YtcbcjhfeidkeaaaOwnS
import Derived.Test.YtcbcjhfeidkeaaaC05
namespace Go.Proofs.Ytcbcjhfeidkeaaa
open Go.RowKit

set_option maxRecDepth 100000 in
theorem l00Same_c (A A' : Option Addr) (n n' c c' : Nat) (xs ys : List Int) (w : World) (h : RdI w A n xs) (h' : RdI w A' n' ys) (hn : n ≤ 1000000000000) :
    Calls Try.prog 101 #[.slice A n c, .slice A' n' c'] w fun e w' => e = .returned (.bool (eqL xs ys)) ∧ Qt w w' := by
  have HL := Lib.hid h.len
  have HL' := Lib.hid h'.len
  have H := Lib.hid h
  have H' := Lib.hid h'
  clear h h'
  by_cases hnn : n = n'
  · have hne : ((n : Int) != (n' : Int)) = false := by simp [hnn]
    have HN := Lib.hid hnn; clear hnn
    go_enter Try.func101, Try.ntmps101
    go_wp2
    go_loopw [5] (fun i wr => ∃ k : Nat, k ≤ n ∧ i = .int .i64 k ∧ Hid (xs.take k = ys.take k) ∧ Qt w wr) (fun i _ => n - (intOf i).toNat)
    case atStart => exact ⟨0, by omega, rfl, by simp [Hid], Qt.refl _⟩
    case round =>
      obtain ⟨k, hk, rfl, hr, hq⟩ := hrel
      obtain ⟨m, rfl⟩ := hq
      by_cases hlt : k < n
      · obtain ⟨ad, x, rfl, hab, hx, hc⟩ := H.out.at_ hlt
        obtain ⟨ad', y, rfl, hab', hy, hc'⟩ := H'.out.at_ (show k < n' by rw [← HN.out]; exact hlt)
        have hlt' : k < n' := by rw [← HN.out]; exact hlt
        have Hx := Lib.hid hx
        have Hy := Lib.hid hy
        clear hx hy
        by_cases hxy : x = y
        · have hxy' : (x != y) = false := by simp [hxy]
          have HE := Lib.hid hxy; clear hxy
          go_wp2
          go_quiet (fail)
          go_wp2
          go_roundw
          case rel => exact ⟨k + 1, by omega, by go_num, by unfold Hid; rw [take_at Hx.out, take_at Hy.out, hr.out, HE.out], (by first | exact Qt.refl _ | exact ⟨_, rfl⟩ | exact Qt.drewN ⟨_, rfl⟩ _)⟩
          case measure => simp [intOf]; omega
        · have hxy' : (x != y) = true := by simpa using hxy
          have HE := Lib.hid hxy; clear hxy
          go_wp2
          go_quiet (fail)
          go_wp2
          go_ret
          refine ⟨?_, (by first | exact Qt.refl _ | exact ⟨_, rfl⟩ | exact Qt.drewN ⟨_, rfl⟩ _)⟩
          have : xs ≠ ys := fun e => HE.out (by have h1 := Hx.out; have h2 := Hy.out; rw [e, h2] at h1; injection h1 with h1; exact h1.symm)
          simp [eqL, this]
      · have HK := Lib.hid (show k = n by omega)
        go_wp2
        go_ret
        refine ⟨?_, (by first | exact Qt.refl _ | exact ⟨_, rfl⟩ | exact Qt.drewN ⟨_, rfl⟩ _)⟩
        have h1 := hr.out
        rw [List.take_of_length_le (by rw [HL.out]; omega), List.take_of_length_le (by rw [HL'.out, ← HN.out]; omega)] at h1
        simp [eqL, h1]
  · have hne : ((n : Int) != (n' : Int)) = true := by simp; omega
    have HN := Lib.hid hnn; clear hnn
    go_enter Try.func101, Try.ntmps101
    go_wp2
    go_ret
    refine ⟨?_, Qt.refl _⟩
    have : xs ≠ ys := fun e => HN.out (by rw [← HL.out, ← HL'.out, e])
    simp [eqL, this]
set_option maxRecDepth 100000 in
theorem equalI_c (A A' : Option Addr) (n n' c c' : Nat) (xs ys : List Int) (w : World) (h : RdI w A n xs) (h' : RdI w A' n' ys) (hn : n ≤ 1000000000000) :
    Calls Try.prog 105 #[.slice A n c, .slice A' n' c'] w fun e w' => e = .returned (.bool (eqL xs ys)) ∧ Qt w w' := by
  have HL := Lib.hid h.len
  have HL' := Lib.hid h'.len
  have H := Lib.hid h
  have H' := Lib.hid h'
  clear h h'
  by_cases hnn : n = n'
  · have hne : ((n : Int) != (n' : Int)) = false := by simp [hnn]
    have HN := Lib.hid hnn; clear hnn
    go_enter Try.func105, Try.ntmps105
    go_wp2
    go_loopw [13] (fun i wr => ∃ k : Nat, k ≤ n ∧ i = .int .i64 k ∧ Hid (xs.take k = ys.take k) ∧ Qt w wr) (fun i _ => n - (intOf i).toNat)
    case atStart => exact ⟨0, by omega, rfl, by simp [Hid], Qt.refl _⟩
    case round =>
      obtain ⟨k, hk, rfl, hr, hq⟩ := hrel
      obtain ⟨m, rfl⟩ := hq
      by_cases hlt : k < n
      · obtain ⟨ad, x, rfl, hab, hx, hc⟩ := H.out.at_ hlt
        obtain ⟨ad', y, rfl, hab', hy, hc'⟩ := H'.out.at_ (show k < n' by rw [← HN.out]; exact hlt)
        have hlt' : k < n' := by rw [← HN.out]; exact hlt
        have Hx := Lib.hid hx
        have Hy := Lib.hid hy
        clear hx hy
        by_cases hxy : x = y
        · have hxy' : (x != y) = false := by simp [hxy]
          have HE := Lib.hid hxy; clear hxy
          go_wp2
          go_quiet (fail)
          go_wp2
          go_roundw
          case rel => exact ⟨k + 1, by omega, by go_num, by unfold Hid; rw [take_at Hx.out, take_at Hy.out, hr.out, HE.out], (by first | exact Qt.refl _ | exact ⟨_, rfl⟩ | exact Qt.drewN ⟨_, rfl⟩ _)⟩
          case measure => simp [intOf]; omega
        · have hxy' : (x != y) = true := by simpa using hxy
          have HE := Lib.hid hxy; clear hxy
          go_wp2
          go_quiet (fail)
          go_wp2
          go_ret
          refine ⟨?_, (by first | exact Qt.refl _ | exact ⟨_, rfl⟩ | exact Qt.drewN ⟨_, rfl⟩ _)⟩
          have : xs ≠ ys := fun e => HE.out (by have h1 := Hx.out; have h2 := Hy.out; rw [e, h2] at h1; injection h1 with h1; exact h1.symm)
          simp [eqL, this]
      · have HK := Lib.hid (show k = n by omega)
        go_wp2
        go_ret
        refine ⟨?_, (by first | exact Qt.refl _ | exact ⟨_, rfl⟩ | exact Qt.drewN ⟨_, rfl⟩ _)⟩
        have h1 := hr.out
        rw [List.take_of_length_le (by rw [HL.out]; omega), List.take_of_length_le (by rw [HL'.out, ← HN.out]; omega)] at h1
        simp [eqL, h1]
  · have hne : ((n : Int) != (n' : Int)) = true := by simp; omega
    have HN := Lib.hid hnn; clear hnn
    go_enter Try.func105, Try.ntmps105
    go_wp2
    go_ret
    refine ⟨?_, Qt.refl _⟩
    have : xs ≠ ys := fun e => HN.out (by rw [← HL.out, ← HL'.out, e])
    simp [eqL, this]
/-- the first place of a list in a list of lists, or -1 -/
def rowAt (y : List Int) : Nat → List (List Int) → Int
  | _, [] => -1
  | k, x :: l => if x = y then k else rowAt y (k + 1) l
theorem rowAt_mem (y : List Int) : ∀ (l : List (List Int)) (k : Nat), decide (0 ≤ rowAt y k l) = decide (y ∈ l)
  | [], k => by simp [rowAt]
  | x :: l, k => by
    rw [rowAt]
    by_cases h : x = y
    · simp [h]
    · rw [if_neg h, rowAt_mem y l]
      simp; exact fun e => absurd e.symm h
theorem rowAt_lt (y : List Int) (l : List (List Int)) (k : Nat) : decide (rowAt y k l < 0) = !decide (y ∈ l) := by
  rw [← rowAt_mem y l k]
  by_cases h : 0 ≤ rowAt y k l
  · simp [h]
  · simp [h]; omega
/-- a list of lists of the call's own -/
def IIOut (R : List (List Int)) (w : World) (e : Ending) (w' : World) : Prop :=
  ∃ A n c its, e = .returned (.slice A n c) ∧ WrS w' w.heap.size w'.heap.size (sgII A n its) ∧ (n ≤ 1000000 ∧ (∀ t ∈ its, t.n ≤ 1000000) ∧ sumN its ≤ 100000000 ∧ its.map It.xs = R) ∧ Below w.heap.size w w'
/-- .. and a code -/
def IIOut2 (R : List (List Int) × Int) (w : World) (e : Ending) (w' : World) : Prop :=
  ∃ A n c its, e = .returned (.tuple #[.slice A n c, .int .i64 R.2]) ∧ WrS w' w.heap.size w'.heap.size (sgII A n its) ∧ (n ≤ 1000000 ∧ (∀ t ∈ its, t.n ≤ 1000000) ∧ sumN its ≤ 100000000 ∧ its.map It.xs = R.1) ∧ Below w.heap.size w w'
theorem IIOut2.bad {w w' : World} (k : Int) (h : Below w.heap.size w w') : IIOut2 ([], k) w (.returned (.tuple #[.slice none 0 0, .int .i64 k])) w' :=
  ⟨none, 0, 0, [], rfl, WrS.one (A := none) (n := 0) (vs := []) Wr.nil, ⟨by omega, by simp, by simp [sumN], rfl⟩, h⟩
theorem sumN_bd : ∀ (its : List It) (m : Nat), (∀ t ∈ its, t.n ≤ m) → sumN its ≤ its.length * m
  | [], m, _ => by simp [sumN]
  | t :: l, m, h => by
    have h1 := h t (by simp)
    have h2 := sumN_bd l m (fun u hu => h u (by simp [hu]))
    rw [sumN, List.length_cons, Nat.add_mul]; omega
theorem info_I64S : (Try.prog.info? 25).map (fun i => (i.zero, i.size, i.bytes)) = some (some (.slice none 0 0), 1, 24) := by kernel_rfl
theorem OwnS.rdII {w : World} {B : Nat} {e : TypeId} {A : Option Addr} {n c : Nat} {its : List It} (h : OwnS w B e 1 A n c (its.map hdI) (its.map bodyI)) : RdS w (sgII A n its) := by
  have := h.wrS.rd
  simpa [sgII] using this
theorem OwnS.wrII {w : World} {B : Nat} {e : TypeId} {A : Option Addr} {n c : Nat} {its : List It} (h : OwnS w B e 1 A n c (its.map hdI) (its.map bodyI)) : WrS w B w.heap.size (sgII A n its) := by
  have := h.wrS
  simpa [sgII] using this
/-- two elements at the end as one more -/
theorem OwnS.snocII {w : World} {B : Nat} {e : TypeId} {A : Option Addr} {n c : Nat} {its : List It} {t : It} (h : OwnS w B e 1 A n c (its.map hdI ++ [hdI t]) (its.map bodyI ++ [bodyI t])) : OwnS w B e 1 A n c ((its ++ [t]).map hdI) ((its ++ [t]).map bodyI) := by
  simpa using h
end Go.Proofs.Ytcbcjhfeidkeaaa
