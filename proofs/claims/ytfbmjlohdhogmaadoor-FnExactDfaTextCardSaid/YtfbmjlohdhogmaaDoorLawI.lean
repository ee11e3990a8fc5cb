/-
  The helpers of the laws at []int64: copy, compare, mark, look at the marks, count. For every slice within 2^40 elements.
-/
import Derived.Test.YtfbmjlohdhogmaaDoorProg
import Derived.Test.YtfbmjlohdhogmaaDoorC01
import Derived.WalkKit
import Derived.WalkLawsBesides
import Derived.WalkSpells
import Derived.Deep.QuietTactic
import Derived.BigQuiet
namespace Go.Proofs.YtfbmjlohdhogmaaDoor
open Go.RowKit



def szOf (left : Int) (n : Nat) : Int := if left - n < 0 then -1 else left - n
theorem szOf_neg' {left : Int} {n : Nat} (h : left < (n : Int)) : szOf left n = -1 := by unfold szOf; rw [if_pos (by omega)]
theorem szOf_pos' {left : Int} {n : Nat} (h : (n : Int) ≤ left) : szOf left n = left - n := by unfold szOf; rw [if_neg (by omega)]
theorem szInt64S_c (A : Option Addr) (n c : Nat) (left : Int) (w : World) (hn : n ≤ 9223372036854775807) (hl : 0 ≤ left) (hl' : left ≤ 1000000000000) :
    Calls Tryd.prog 36 #[.slice A n c, .int .i64 left] w fun e w' => e = .returned (.int .i64 (szOf left n)) ∧ w = w' := by
  by_cases h : left - n < 0
  · go_enter Tryd.func36, Tryd.ntmps36
    go_wp2
    go_ret
    exact ⟨by rw [szOf, if_pos h]; rfl, rfl⟩
  · go_enter Tryd.func36, Tryd.ntmps36
    go_wp2
    go_ret
    exact ⟨by rw [szOf, if_neg (by omega)]; rfl, rfl⟩

theorem toInt64S_c (A : Option Addr) (n c : Nat) (xs : List Int) (w : World) (h : RdI w A n xs) (hn : n ≤ 1000000000000) :
    Calls Tryd.prog 39 #[.slice A n c] w fun e w' => e = .returned (.slice (some ⟨w.heap.size, 0, none⟩) n n) ∧ Wr w' w.heap.size w'.heap.size (some ⟨w.heap.size, 0, none⟩) n (xs.map i64) ∧ Below w.heap.size w w' := by
  have HL := Lib.hid h.len
  have H := Lib.hid h; clear h
  have hmk := run_mk (P := Tryd.prog) 22 2 (.int .i64 0) 8 Tryd.underlying22 info_i64 rfl .i64 .i64 n n (Nat.le_refl _) (by omega) (by omega)
  go_enter Tryd.func39, Tryd.ntmps39
  go_wp2
  clear hmk
  go_loopw [4] (fun i wr => ∃ k : Nat, k ≤ n ∧ i = .int .i64 k ∧ Blk wr w.heap.size 2 (fillV (xs.map i64) (.int .i64 0) k) ∧ Below w.heap.size w wr) (fun i _ => n - (intOf i).toNat)
  case atStart =>
    refine ⟨0, by omega, rfl, ?_, below_size.alloc (Nat.le_refl _) _⟩
    rw [fillV_zero, List.length_map, HL.out]; exact Blk.new _ _ _
  case round =>
    obtain ⟨k, hk, rfl, hblk, hb⟩ := hrel
    by_cases hlt : k < n
    · obtain ⟨ad, x, rfl, hab, hx, hc⟩ := H.out.at_ hlt
      have hc' : wr.cell? (ad.add k) = some (.int .i64 x) := (hb.cell (p := ad.add k) (by rw [block_add]; exact hab)).trans hc
      have hd : wr.cell? ⟨w.heap.size, k, none⟩ = some (.int .i64 0) := by rw [hblk.cell]; exact fillV_at (by rw [List.length_map, HL.out]; exact hlt)
      have hf := hblk.frozen k
      have Hx := Lib.hid hx
      have HB := Lib.hid hblk
      have Hb := Lib.hid hb
      clear hx hc hblk hb
      go_wp2
      go_roundw
      case rel =>
        refine ⟨k + 1, by omega, by go_num, ?_, Hb.out.setCell (Nat.le_refl _) _⟩
        have := HB.out.set_ k (.int .i64 x)
        rwa [fillV_set (by rw [List.getElem?_map, Hx.out]; rfl)] at this
      case measure => simp [intOf]; omega
    · have hkn : k = n := by omega
      have HB := Lib.hid hblk
      have Hb := Lib.hid hb
      clear hblk hb
      go_wp2
      go_ret
      refine ⟨rfl, ?_, Hb.out⟩
      have := HB.out
      rw [hkn] at this
      rw [show n = (xs.map i64).length by rw [List.length_map, HL.out], fillV_all] at this
      exact this.wr (Nat.le_refl _) this.lt (by rw [← HL.out, show xs.length = (xs.map i64).length by simp, List.take_length]) (by simp [HL.out])

def eqL (xs ys : List Int) : Bool := decide (xs = ys)

theorem eqInt64S_c (A A' : Option Addr) (n n' c c' : Nat) (xs ys : List Int) (w : World) (h : RdI w A n xs) (h' : RdI w A' n' ys) (hn : n ≤ 1000000000000) :
    Calls Tryd.prog 44 #[.slice A n c, .slice A' n' c'] w fun e w' => e = .returned (.bool (eqL xs ys)) ∧ Qt w w' := by
  have HL := Lib.hid h.len
  have HL' := Lib.hid h'.len
  have H := Lib.hid h
  have H' := Lib.hid h'
  clear h h'
  by_cases hnn : n = n'
  · have hne : ((n : Int) != (n' : Int)) = false := by simp [hnn]
    have HN := Lib.hid hnn; clear hnn
    go_enter Tryd.func44, Tryd.ntmps44
    go_wp2
    go_loopw [5] (fun i wr => ∃ k : Nat, k ≤ n ∧ i = .int .i64 k ∧ Hid (xs.take k = ys.take k) ∧ Qt w wr) (fun i _ => n - (intOf i).toNat)
    case atStart => exact ⟨0, by omega, rfl, by simp [Hid], Qt.refl _⟩
    case round =>
      obtain ⟨k, hk, rfl, hr, hq⟩ := hrel
      obtain ⟨m, rfl⟩ := hq
      by_cases hlt : k < n
      · obtain ⟨ad, x, rfl, hab, hx, hc⟩ := H.out.at_ hlt
        obtain ⟨ad', y, rfl, hab', hy, hc'⟩ := H'.out.at_ (show k < n' by rw [← HN.out]; exact hlt)
        have hlt' : k < n' := by rw [← HN.out]; exact hlt
        have Hx := Lib.hid hx
        have Hy := Lib.hid hy
        clear hx hy
        by_cases hxy : x = y
        · have hxy' : (x != y) = false := by simp [hxy]
          have HE := Lib.hid hxy; clear hxy
          go_wp2
          go_quiet (fail)
          go_wp2
          go_roundw
          case rel => exact ⟨k + 1, by omega, by go_num, by unfold Hid; rw [take_at Hx.out, take_at Hy.out, hr.out, HE.out], (by first | exact Qt.refl _ | exact ⟨_, rfl⟩ | exact Qt.drewN ⟨_, rfl⟩ _)⟩
          case measure => simp [intOf]; omega
        · have hxy' : (x != y) = true := by simpa using hxy
          have HE := Lib.hid hxy; clear hxy
          go_wp2
          go_quiet (fail)
          go_wp2
          go_ret
          refine ⟨?_, (by first | exact Qt.refl _ | exact ⟨_, rfl⟩ | exact Qt.drewN ⟨_, rfl⟩ _)⟩
          have : xs ≠ ys := fun e => HE.out (by have h1 := Hx.out; have h2 := Hy.out; rw [e, h2] at h1; injection h1 with h1; exact h1.symm)
          simp [eqL, this]
      · have HK := Lib.hid (show k = n by omega)
        go_wp2
        go_ret
        refine ⟨?_, (by first | exact Qt.refl _ | exact ⟨_, rfl⟩ | exact Qt.drewN ⟨_, rfl⟩ _)⟩
        have h1 := hr.out
        rw [List.take_of_length_le (by rw [HL.out]; omega), List.take_of_length_le (by rw [HL'.out, ← HN.out]; omega)] at h1
        simp [eqL, h1]
  · have hne : ((n : Int) != (n' : Int)) = true := by simp; omega
    have HN := Lib.hid hnn; clear hnn
    go_enter Tryd.func44, Tryd.ntmps44
    go_wp2
    go_ret
    refine ⟨?_, Qt.refl _⟩
    have : xs ≠ ys := fun e => HN.out (by rw [← HL.out, ← HL'.out, e])
    simp [eqL, this]

theorem eqInt64S_t (A A' : Option Addr) (n n' c c' : Nat) (xs : List Int) (w : World) (h : RdI w A n xs) (h' : RdI w A' n' xs) (hn : n ≤ 1000000000000) :
    Calls Tryd.prog 44 #[.slice A n c, .slice A' n' c'] w fun e w' => e = .returned (.bool true) ∧ Below w.heap.size w w' :=
  (eqInt64S_c A A' n n' c c' xs xs w h h' hn).mono fun e w' ⟨he, hq⟩ => ⟨by rw [he]; simp [eqL], hq.below _⟩

end Go.Proofs.YtfbmjlohdhogmaaDoor
