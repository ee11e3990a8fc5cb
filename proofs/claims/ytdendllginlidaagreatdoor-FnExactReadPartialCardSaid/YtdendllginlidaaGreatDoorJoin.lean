/-
  Contracts of chapter 26: lists one behind the other.
-/
import Derived.Test.YtdendllginlidaaGreatDoorConcat
namespace Go.Proofs.YtdendllginlidaaGreatDoor
open Go.RowKit

theorem joined_c (A : Option Addr) (m c : Nat) (its : List ItV) (w : World) (h : RdV w 1 A m its) (hm : m ≤ 1000000) (hs : sumV its ≤ 100000000) :
    Calls Tryz.prog 30 #[.slice A m c] w (CatOut 1 (sumV its) (its.flatMap ItV.vs) w) := by
  go_enter Tryz.func30, Tryz.ntmps30
  go_wp2_with fail
  refine (concatI_c A m c its _ h hm hs).mono ?_
  rintro e w1 ⟨A1, c1, rfl, hw, hc, hb⟩
  have W := Lib.hid hw; have B := Lib.hid hb; clear hw hb h
  go_wp2_with fail
  go_ret
  exact ⟨A1, c1, rfl, W.out, hc, B.out⟩
theorem rdV2 {w : World} {g : Nat} {t : TypeId} {A B : Option Addr} {n m c d : Nat} {xs ys : List Int} (hg : Blk w g t #[.slice A n c, .slice B m d]) (hx : RdI w A n xs) (hy : RdI w B m ys) : RdV w 1 (some ⟨g, 0, none⟩) 2 [⟨A, n, c, xs.map i64⟩, ⟨B, m, d, ys.map i64⟩] := by
  refine ⟨hg.rd (by simp [hdV]) (by simp), fun t ht => ?_, fun t ht u hu => ?_⟩
  · simp at ht
    rcases ht with rfl | rfl
    · show Rd w A (n * 1) _; rw [Nat.mul_one]; exact hx
    · show Rd w B (m * 1) _; rw [Nat.mul_one]; exact hy
  · simp at ht
    rcases ht with rfl | rfl
    all_goals (obtain ⟨y, _, rfl⟩ := List.mem_map.1 hu; rfl)
theorem rdV3 {w : World} {g : Nat} {t : TypeId} {A B C : Option Addr} {n m k c d e : Nat} {xs ys zs : List Int} (hg : Blk w g t #[.slice A n c, .slice B m d, .slice C k e]) (hx : RdI w A n xs) (hy : RdI w B m ys) (hz : RdI w C k zs) : RdV w 1 (some ⟨g, 0, none⟩) 3 [⟨A, n, c, xs.map i64⟩, ⟨B, m, d, ys.map i64⟩, ⟨C, k, e, zs.map i64⟩] := by
  refine ⟨hg.rd (by simp [hdV]) (by simp), fun t ht => ?_, fun t ht u hu => ?_⟩
  · simp at ht
    rcases ht with rfl | rfl | rfl
    · show Rd w A (n * 1) _; rw [Nat.mul_one]; exact hx
    · show Rd w B (m * 1) _; rw [Nat.mul_one]; exact hy
    · show Rd w C (k * 1) _; rw [Nat.mul_one]; exact hz
  · simp at ht
    rcases ht with rfl | rfl | rfl
    all_goals (obtain ⟨y, _, rfl⟩ := List.mem_map.1 hu; rfl)
end Go.Proofs.YtdendllginlidaaGreatDoor
