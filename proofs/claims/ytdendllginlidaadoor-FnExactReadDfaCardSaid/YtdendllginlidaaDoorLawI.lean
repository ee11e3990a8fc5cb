/-
  The helpers of the laws at []int64: copy, compare, mark, look at the marks, count. For every slice within 2^40 elements.
-/
import Derived.Test.YtdendllginlidaaDoorProg
import Derived.Test.YtdendllginlidaaDoorC01
import Derived.WalkKit
import Derived.WalkLawsBesides
import Derived.WalkSpells
import Derived.Deep.QuietTactic
import Derived.BigQuiet
namespace Go.Proofs.YtdendllginlidaaDoor
open Go.RowKit



def szOf (left : Int) (n : Nat) : Int := if left - n < 0 then -1 else left - n
theorem szOf_neg' {left : Int} {n : Nat} (h : left < (n : Int)) : szOf left n = -1 := by unfold szOf; rw [if_pos (by omega)]
theorem szOf_pos' {left : Int} {n : Nat} (h : (n : Int) ≤ left) : szOf left n = left - n := by unfold szOf; rw [if_neg (by omega)]
def eqL (xs ys : List Int) : Bool := decide (xs = ys)

theorem eqInt64S_c (A A' : Option Addr) (n n' c c' : Nat) (xs ys : List Int) (w : World) (h : RdI w A n xs) (h' : RdI w A' n' ys) (hn : n ≤ 1000000000000) :
    Calls Tryd.prog 19 #[.slice A n c, .slice A' n' c'] w fun e w' => e = .returned (.bool (eqL xs ys)) ∧ Qt w w' := by
  have HL := Lib.hid h.len
  have HL' := Lib.hid h'.len
  have H := Lib.hid h
  have H' := Lib.hid h'
  clear h h'
  by_cases hnn : n = n'
  · have hne : ((n : Int) != (n' : Int)) = false := by simp [hnn]
    have HN := Lib.hid hnn; clear hnn
    go_enter Tryd.func19, Tryd.ntmps19
    go_wp2
    go_loopw [5] (fun i wr => ∃ k : Nat, k ≤ n ∧ i = .int .i64 k ∧ Hid (xs.take k = ys.take k) ∧ Qt w wr) (fun i _ => n - (intOf i).toNat)
    case atStart => exact ⟨0, by omega, rfl, by simp [Hid], Qt.refl _⟩
    case round =>
      obtain ⟨k, hk, rfl, hr, hq⟩ := hrel
      obtain ⟨m, rfl⟩ := hq
      by_cases hlt : k < n
      · obtain ⟨ad, x, rfl, hab, hx, hc⟩ := H.out.at_ hlt
        obtain ⟨ad', y, rfl, hab', hy, hc'⟩ := H'.out.at_ (show k < n' by rw [← HN.out]; exact hlt)
        have hlt' : k < n' := by rw [← HN.out]; exact hlt
        have Hx := Lib.hid hx
        have Hy := Lib.hid hy
        clear hx hy
        by_cases hxy : x = y
        · have hxy' : (x != y) = false := by simp [hxy]
          have HE := Lib.hid hxy; clear hxy
          go_wp2
          go_quiet (fail)
          go_wp2
          go_roundw
          case rel => exact ⟨k + 1, by omega, by go_num, by unfold Hid; rw [take_at Hx.out, take_at Hy.out, hr.out, HE.out], (by first | exact Qt.refl _ | exact ⟨_, rfl⟩ | exact Qt.drewN ⟨_, rfl⟩ _)⟩
          case measure => simp [intOf]; omega
        · have hxy' : (x != y) = true := by simpa using hxy
          have HE := Lib.hid hxy; clear hxy
          go_wp2
          go_quiet (fail)
          go_wp2
          go_ret
          refine ⟨?_, (by first | exact Qt.refl _ | exact ⟨_, rfl⟩ | exact Qt.drewN ⟨_, rfl⟩ _)⟩
          have : xs ≠ ys := fun e => HE.out (by have h1 := Hx.out; have h2 := Hy.out; rw [e, h2] at h1; injection h1 with h1; exact h1.symm)
          simp [eqL, this]
      · have HK := Lib.hid (show k = n by omega)
        go_wp2
        go_ret
        refine ⟨?_, (by first | exact Qt.refl _ | exact ⟨_, rfl⟩ | exact Qt.drewN ⟨_, rfl⟩ _)⟩
        have h1 := hr.out
        rw [List.take_of_length_le (by rw [HL.out]; omega), List.take_of_length_le (by rw [HL'.out, ← HN.out]; omega)] at h1
        simp [eqL, h1]
  · have hne : ((n : Int) != (n' : Int)) = true := by simp; omega
    have HN := Lib.hid hnn; clear hnn
    go_enter Tryd.func19, Tryd.ntmps19
    go_wp2
    go_ret
    refine ⟨?_, Qt.refl _⟩
    have : xs ≠ ys := fun e => HN.out (by rw [← HL.out, ← HL'.out, e])
    simp [eqL, this]

theorem eqInt64S_t (A A' : Option Addr) (n n' c c' : Nat) (xs : List Int) (w : World) (h : RdI w A n xs) (h' : RdI w A' n' xs) (hn : n ≤ 1000000000000) :
    Calls Tryd.prog 19 #[.slice A n c, .slice A' n' c'] w fun e w' => e = .returned (.bool true) ∧ Below w.heap.size w w' :=
  (eqInt64S_c A A' n n' c c' xs xs w h h' hn).mono fun e w' ⟨he, hq⟩ => ⟨by rw [he]; simp [eqL], hq.below _⟩

theorem markInt64S_c (A : Option Addr) (n c lo hi : Nat) (vs : List Value) (k0 : Int) (w : World) (h : Wr w lo hi A n vs) (hn : n ≤ 1000000000000) (h0 : 0 ≤ k0) (h1 : k0 ≤ 1000000000000) :
    Calls Tryd.prog 20 #[.slice A n c, .int .i64 k0] w fun e w' => e = .returned (.int .i64 (k0 + n)) ∧ Wr w' lo hi A n ((marks k0 n).map i64) ∧ KeepR lo hi w w' := by
  have H := Lib.hid h; clear h
  go_enter Tryd.func20, Tryd.ntmps20
  go_wp2
  go_loopw [1, 5] (fun q i wr => ∃ k : Nat, k ≤ n ∧ i = .int .i64 k ∧ q = .int .i64 (k0 + k) ∧ (∃ us, Wr wr lo hi A n us ∧ ∀ j, j < k → us[j]? = some (i64 (k0 + j))) ∧ KeepR lo hi w wr) (fun _ i _ => n - (intOf i).toNat)
  case atStart => exact ⟨0, by omega, rfl, by simp, ⟨vs, H.out, fun j hj => absurd hj (by omega)⟩, KeepR.refl _ _ _⟩
  case round =>
    obtain ⟨k, hk, rfl, rfl, ⟨us, hw, hus⟩, hb⟩ := hrel
    by_cases hlt : k < n
    · obtain ⟨ad, v, rfl, hB, hH, hab, hv, hc, hf⟩ := hw.at_ hlt
      have HW := Lib.hid hw
      have HU := Lib.hid hus
      have Hb := Lib.hid hb
      clear hw hus hb hv
      go_wp2
      go_roundw
      case rel =>
        refine ⟨k + 1, by omega, by go_num, by go_num, ⟨_, HW.out.set hlt _, fun j hj => ?_⟩, Hb.out.setCell (by rw [block_add]; exact hB) (by rw [block_add]; exact hH) _⟩
        by_cases hjk : k = j
        · subst hjk; rw [List.getElem?_set_self (by have := HW.out.1; omega)]
        · rw [List.getElem?_set_ne hjk]; exact HU.out j (by omega)
      case measure => simp [intOf]; omega
    · have HK := Lib.hid (show k = n by omega)
      have HW := Lib.hid hw
      have HU := Lib.hid hus
      have Hb := Lib.hid hb
      clear hw hus hb
      go_wp2
      go_ret
      refine ⟨by rw [← HK.out]; rfl, ?_, Hb.out⟩
      have e : us = (marks k0 n).map i64 := by
        apply List.ext_getElem?
        intro j
        by_cases hj : j < n
        · rw [HU.out j (by rw [HK.out]; exact hj), List.getElem?_map, marks_at hj]; rfl
        · rw [List.getElem?_eq_none (by rw [HW.out.1]; omega), List.getElem?_eq_none (by rw [List.length_map, marks_len]; omega)]
      rw [← e]; exact HW.out

theorem heldInt64S_s (A : Option Addr) (n c : Nat) (k0 : Int) (w : World) (h : RdI w A n (marks k0 n)) (hn : n ≤ 1000000000000) (h0 : 0 ≤ k0) (h1 : k0 ≤ 1000000000000) :
    Calls Tryd.prog 21 #[.slice A n c, .int .i64 k0] w fun e w' => e = .returned (.int .i64 (k0 + n)) ∧ w = w' := by
  have H := Lib.hid h; clear h
  go_enter Tryd.func21, Tryd.ntmps21
  go_wp2
  go_loop [1, 5] (fun q i => ∃ k : Nat, k ≤ n ∧ i = .int .i64 k ∧ q = .int .i64 (k0 + k)) (fun _ i => n - (intOf i).toNat)
  case atStart => exact ⟨0, by omega, rfl, by simp⟩
  case round =>
    obtain ⟨k, hk, rfl, rfl⟩ := hrel
    by_cases hlt : k < n
    · obtain ⟨ad, x, rfl, hab, hx, hc⟩ := H.out.at_ hlt
      rw [marks_at hlt] at hx
      injection hx with hx
      subst hx
      have hne : ((k0 + (k : Int)) != k0 + (k : Int)) = false := by simp
      go_wp2
      go_round
      case rel => exact ⟨k + 1, by omega, by go_num, by go_num⟩
      case measure => simp [intOf]; omega
    · have HK := Lib.hid (show k = n by omega)
      go_wp2
      go_ret
      exact ⟨by rw [← HK.out]; rfl, rfl⟩
theorem heldInt64S_c (A : Option Addr) (n c : Nat) (k0 : Int) (w : World) (h : RdI w A n (marks k0 n)) (hn : n ≤ 1000000000000) (h0 : 0 ≤ k0) (h1 : k0 ≤ 1000000000000) :
    Calls Tryd.prog 21 #[.slice A n c, .int .i64 k0] w fun e w' => e = .returned (.int .i64 (k0 + n)) ∧ Below w.heap.size w w' :=
  (heldInt64S_s A n c k0 w h hn h0 h1).mono fun _ _ ⟨he, hq⟩ => ⟨he, hq ▸ below_size⟩
end Go.Proofs.YtdendllginlidaaDoor
