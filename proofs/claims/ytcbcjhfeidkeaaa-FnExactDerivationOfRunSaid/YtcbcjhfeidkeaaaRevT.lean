/-
  Copies and reversals that tell their capacity; a list without zeros at its end.
-/
import Derived.Test.YtcbcjhfeidkeaaaClK
import Derived.Test.YtcbcjhfeidkeaaaMixB
import Derived.Test.YtcbcjhfeidkeaaaC02b
namespace Go.Proofs.Ytcbcjhfeidkeaaa
open Go.RowKit

set_option maxHeartbeats 1000000 in
theorem reversedK_c (A : Option Addr) (n c : Nat) (ws : List Int) (w : World) (h : RdI w A n ws) (hn : n ≤ 1000000) :
    Calls Try.prog 84 #[.slice A n c] w fun e w' => ∃ A' cap, e = .returned (.slice A' n cap) ∧ n ≤ cap ∧ Wr w' w.heap.size w'.heap.size A' n (ws.reverse.map i64) ∧ Below w.heap.size w w' := by
  go_enter Try.func84, Try.ntmps84
  go_wp2_with fail
  refine (cloneK_c A n c ws _ h hn).mono ?_
  rintro e w1 ⟨A', cap, rfl, hcp, hw, hb⟩
  have W1 := Lib.hid hw; have B1 := Lib.hid hb
  clear hw hb h
  go_wp2_with fail
  refine (reverse_c A' n cap ws _ _ _ W1.out hn).mono ?_
  rintro e w2 ⟨⟨v, rfl⟩, hw, hk⟩
  have W2 := Lib.hid hw; have B2 := Lib.hid (B1.out.trans (hk.below (Nat.le_refl _) B1.out.size))
  have hz := hk.size
  clear hw hk
  go_wp2_with fail
  go_ret
  exact ⟨A', cap, rfl, hcp, W2.out.wider (Nat.le_refl _) hz, B2.out⟩
set_option maxHeartbeats 2000000 in
theorem l03ReverseK_c (A : Option Addr) (n c : Nat) (ws : List Int) (w : World) (h : RdI w A n ws) (hn : n ≤ 1000000) :
    Calls Try.prog 54 #[.slice A n c] w fun e w' => ∃ A' cap, e = .returned (.slice A' n cap) ∧ n ≤ cap ∧ Wr w' w.heap.size w'.heap.size A' n (ws.reverse.map i64) ∧ Below w.heap.size w w' := by
  have HL := Lib.hid h.len
  have H := Lib.hid h; clear h
  have v0 : IntKind.i64.wrap ((n : Int) - 1) = (n : Int) - 1 := IntWalk.i64_in _ (by omega)
  go_enter Try.func54, Try.ntmps54
  go_wp2_with fail
  clear v0
  go_loopw [3, 4] (fun sv iv wr => ∃ (k m : Nat) (O : Option Addr) (oc : Nat), iv = .int .i64 ((k : Int) - 1) ∧ sv = .slice O m oc ∧ k ≤ n ∧ Hid (m + k = n) ∧ m ≤ n ∧ Hid (Own wr w.heap.size 2 1 O m oc ((ws.drop k).reverse.map i64)) ∧ Below w.heap.size w wr) (fun _ iv _ => (intOf iv + 1).toNat)
  case atStart => exact ⟨n, 0, _, _, rfl, rfl, Nat.le_refl _, by unfold Hid; omega, by omega, by unfold Hid; rw [List.drop_eq_nil_of_le (by rw [HL.out]; exact Nat.le_refl _)]; exact Own.lit (Nat.le_refl _), below_size.alloc (Nat.le_refl _) _⟩
  case round =>
    obtain ⟨k, m, O, oc, rfl, rfl, hk, hmk, hm, hO, hb⟩ := hrel
    have HB := Lib.hid hb
    by_cases hlt : 0 < k
    · obtain ⟨k', rfl⟩ : ∃ k', k = k' + 1 := ⟨k - 1, by omega⟩
      obtain ⟨ad, x, rfl, hab, hx, hc⟩ := (H.out.below hb).at_ (k := k') (by omega)
      have HX := Lib.hid (drop_rev (m := k' + 1) hx rfl)
      have hz := hb.size
      have hk1 : (((k' + 1 : Nat) : Int) - 1) = (k' : Int) := by omega
      rw [hk1]
      clear hx hb hk1 hlt
      go_wp2_with (at_builtin; refine wp_app1 (by rfl) _ _ 25 2 (.int .i64 0) 8 (by rfl) Try.underlying25 info_i64 rfl w.heap.size O m oc ((ws.drop (k' + 1)).reverse.map i64) (by rfl) (by exact hO.out.alloc _) wr.heap.size (i64 x) (by rfl) (by exact new_cell _ _ _ 0) rfl (by omega) (by omega) (by simp; omega) ?_; intro g' cap w3 own3 hb3 hk3 hg3 hz3)
      have O3 := Lib.hid own3
      have B3 := Lib.hid (HB.out.trans (((below_size.alloc (Nat.le_refl _) _).mono (by omega)).trans hb3))
      clear own3 hb3 hk3 hg3
      go_wp2_with fail
      go_roundw
      case rel => exact ⟨k', m + 1, some ⟨g', 0, none⟩, cap, by go_num, rfl, by omega, by have := hmk.out; unfold Hid; omega, by have := hmk.out; omega, by unfold Hid; rw [HX.out, List.map_append]; exact O3.out, B3.out⟩
      case measure => simp [intOf]
    · obtain rfl : k = 0 := by omega
      have HE := Lib.hid (show m = n by have := hmk.out; omega)
      clear hb
      go_wp2_with fail
      go_ret
      have h1 := hO.out.wr
      rw [List.drop_zero, HE.out] at h1
      exact ⟨O, oc, by rw [HE.out]; rfl, by have := hO.out.cap; have := HE.out; omega, h1, HB.out⟩
set_option maxHeartbeats 1000000 in
theorem l05Trim_c (A : Option Addr) (n c : Nat) (xs : List Int) (w : World) (h : RdI w A n xs) (hn : n ≤ 1000000) (hnc : n ≤ c) :
    Calls Try.prog 58 #[.slice A n c] w fun e w' => ∃ A' m cap, e = .returned (.slice A' m cap) ∧ m = (trimL xs).length ∧ m ≤ n ∧ Wr w' w.heap.size w'.heap.size A' m ((trimL xs).map i64) ∧ Below w.heap.size w w' := by
  have HL := Lib.hid h.len
  have H := Lib.hid h; clear h
  obtain ⟨R, hR⟩ : ∃ R, trimL xs = R := ⟨_, rfl⟩
  rw [hR]
  have H0 := Lib.hid (show trimL (xs.take n) = R by rw [← HL.out, List.take_length]; exact hR)
  clear hR
  go_enter Try.func58, Try.ntmps58
  go_wp2_with fail
  go_loopw [3] (fun kv wr => ∃ k : Nat, k ≤ n ∧ kv = .int .i64 k ∧ Hid (trimL (xs.take k) = R) ∧ w = wr) (fun kv _ => (intOf kv).toNat)
  case atStart => exact ⟨n, Nat.le_refl _, rfl, H0.out, rfl⟩
  case round =>
    obtain ⟨k, hk, rfl, hr, rfl⟩ := hrel
    have fin : ∀ (m : Nat) (O : Option Addr) (oc : Nat), True := fun _ _ _ => trivial
    clear fin
    by_cases h0 : 0 < k
    · obtain ⟨k', rfl⟩ : ∃ k', k = k' + 1 := ⟨k - 1, by omega⟩
      obtain ⟨ad, x, rfl, hab, hx, hc⟩ := H.out.at_ (k := k') (by omega)
      have v1 : IntKind.i64.wrap (((k' + 1 : Nat) : Int) - 1) = (k' : Int) := by rw [IntWalk.i64_in _ (by omega)]; omega
      have v2 : wrap64 (((k' + 1 : Nat) : Int) - 1) = (k' : Int) := by unfold wrap64; omega
      have v3 : ((k' + 1 : Nat) : Int) - 1 = (k' : Int) := by omega
      have kp : decide ((0 : Int) < ((k' + 1 : Nat) : Int)) = true := decide_eq_true (by omega)
      by_cases hx0 : x = 0
      · have HN := Lib.hid (show trimL (xs.take k') = R by rw [← hr.out]; exact (trimL_zero (by rw [hx, hx0])).symm)
        have e0 : (x == 0) = true := by simp [hx0]
        clear hx hx0
        go_wp2_with fail
        go_roundw
        case rel => exact ⟨k', by omega, by first | rfl | go_num, HN.out, by first | rfl | trivial⟩
        case measure => simp [intOf]
      · have HN := Lib.hid (show xs.take (k' + 1) = R by rw [← hr.out]; exact (trimL_stop hx hx0).symm)
        have HR := Lib.hid (show RdI w (some ad) (k' + 1) R by rw [← HN.out]; exact H.out.take (by omega))
        have HM := Lib.hid (show R.length = k' + 1 from HR.out.len)
        have e0 : (x == 0) = false := by simp [hx0]
        clear hx hx0 hr
        go_wp2_with fail
        refine (l00OwnG_c (some ad) (k' + 1) c R _ (by exact HR.out) (by omega)).mono ?_
        rintro e w2 ⟨A2, c2, rfl, hw, hb⟩
        have HW := Lib.hid hw; have HB := Lib.hid hb
        clear hw hb
        go_wp2_with fail
        go_ret
        exact ⟨A2, k' + 1, c2, by first | rfl | go_num, HM.out.symm, hk, HW.out, HB.out⟩
    · obtain rfl : k = 0 := by omega
      have HN := Lib.hid (show [] = R by rw [← hr.out]; rfl)
      have HR := Lib.hid (show RdI w A 0 R by rw [← HN.out]; exact RdI.nil)
      have HM := Lib.hid (show R.length = 0 from HR.out.len)
      clear hr
      go_wp2_with fail
      refine (l00OwnG_c A 0 c R _ (by exact HR.out) (by omega)).mono ?_
      rintro e w2 ⟨A2, c2, rfl, hw, hb⟩
      have HW := Lib.hid hw; have HB := Lib.hid hb
      clear hw hb
      go_wp2_with fail
      go_ret
      exact ⟨A2, 0, c2, by first | rfl | go_num, HM.out.symm, hk, HW.out, HB.out⟩
end Go.Proofs.Ytcbcjhfeidkeaaa
