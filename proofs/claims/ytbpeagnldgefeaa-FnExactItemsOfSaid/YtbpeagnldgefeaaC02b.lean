/-
  Contracts of chapter 2 (naturals): trimming, carrying, adding.
-/
import Derived.Test.YtbpeagnldgefeaaPlain02
namespace Go.Proofs.Ytbpeagnldgefeaa
open Go.RowKit

theorem Wr.take {w : World} {lo hi n k : Nat} {A : Option Addr} {vs : List Value} (h : Wr w lo hi A n vs) (hk : k ≤ n) : Wr w lo hi A k (vs.take k) := by
  refine ⟨by rw [List.length_take, h.1]; omega, fun hn => ?_⟩
  obtain ⟨ad, e, h1, h2, h3, hc⟩ := h.2 (by omega)
  refine ⟨ad, e, h1, h2, h3, fun j v hj => hc j v ?_⟩
  rw [List.getElem?_take] at hj
  split at hj
  · exact hj
  · cases hj
theorem Own.lit {w : World} {B : Nat} {e : TypeId} (hB : B ≤ w.heap.size) : Own (w.alloc (.cells #[] e)) B e 1 (some ⟨w.heap.size, 0, none⟩) 0 0 [] :=
  ⟨by simp, .inr ⟨w.heap.size, 0, #[], rfl, hB, heap_alloc_new w _, by omega, by simp [maxLen], by simp, by simp⟩⟩

set_option maxHeartbeats 1000000 in
theorem trimmed_c (A : Option Addr) (n c : Nat) (xs : List Int) (w : World) (h : RdI w A n xs) (hn : n ≤ 10000000000000) (hnc : n ≤ c) :
    Calls Try.prog 98 #[.slice A n c] w fun e w' => e = .returned (.slice A (trimL xs).length c) ∧ w = w' := by
  have HL := Lib.hid h.len
  have H := Lib.hid h; clear h
  have H0 := Lib.hid (show trimL xs = trimL (xs.take n) by rw [← HL.out, List.take_length])
  go_enter Try.func98, Try.ntmps98
  go_wp2
  go_loop [0] (fun v => ∃ k : Nat, k ≤ n ∧ v = .slice A k c ∧ Hid (trimL xs = trimL (xs.take k))) (fun v => match v with | .slice _ k _ => k | _ => 0)
  case atStart => exact ⟨n, by omega, rfl, H0.out⟩
  case round =>
    obtain ⟨k, hk, rfl, hr⟩ := hrel
    by_cases hk0 : 0 < k
    · obtain ⟨ad, x, rfl, hab, hx, hcx⟩ := H.out.at_ (show k - 1 < n by omega)
      have g1 : decide ((0 : Int) < (k : Int)) = true := by simp; omega
      by_cases hx0 : x = 0
      · have g2 : (x == 0) = true := by simpa using hx0
        have HF := Lib.hid (show trimL xs = trimL (xs.take (k - 1)) by rw [hr.out, show xs.take k = xs.take ((k - 1) + 1) by rw [show (k - 1) + 1 = k by omega]]; rw [hx0] at hx; exact trimL_zero hx)
        clear hx hx0
        go_wp2
        go_round
        case rel => exact ⟨k - 1, by omega, by go_num, HF.out⟩
        case measure => simp; omega
      · have g2 : (x == 0) = false := by simpa using hx0
        have HF := Lib.hid (show (trimL xs).length = k by rw [hr.out, show xs.take k = xs.take ((k - 1) + 1) by rw [show (k - 1) + 1 = k by omega], trimL_stop hx hx0, List.length_take, HL.out]; omega)
        clear hx hx0
        go_wp2
        go_ret
        exact ⟨by rw [HF.out]; rfl, rfl⟩
    · have g1 : decide ((0 : Int) < (k : Int)) = false := by simp; omega
      have HF := Lib.hid (show (trimL xs).length = k by rw [hr.out, show k = 0 by omega]; rfl)
      go_wp2
      go_ret
      exact ⟨by rw [HF.out]; rfl, rfl⟩
theorem limited_c (A : Option Addr) (n c : Nat) (w : World) (hn : n ≤ 1000000000000) (hs : n ≤ 40) :
    Calls Try.prog 75 #[.slice A n c] w fun e w' => e = .returned (.tuple #[.slice A n c, .int .i64 0]) ∧ w = w' := by
  go_enter Try.func75, Try.ntmps75
  go_wp2
  go_ret2
  exact ⟨rfl, rfl⟩
theorem limited_f (A : Option Addr) (n c : Nat) (w : World) (hn : n ≤ 1000000000000) (hs : 40 < n) :
    Calls Try.prog 75 #[.slice A n c] w fun e w' => e = .returned (.tuple #[.slice none 0 0, .int .i64 5]) ∧ w = w' := by
  go_enter Try.func75, Try.ntmps75
  go_wp2
  go_ret2
  exact ⟨rfl, rfl⟩
theorem l02Fit_c (A : Option Addr) (n c : Nat) (w : World) (hn : n ≤ 1000000000000) (hs : n ≤ 40) :
    Calls Try.prog 72 #[.slice A n c] w fun e w' => e = .returned (.tuple #[.slice A n c, .int .i64 0]) ∧ w = w' := by
  go_enter Try.func72, Try.ntmps72
  go_wp2
  go_ret2
  exact ⟨rfl, rfl⟩
theorem l02Fit_f (A : Option Addr) (n c : Nat) (w : World) (hn : n ≤ 1000000000000) (hs : 40 < n) :
    Calls Try.prog 72 #[.slice A n c] w fun e w' => e = .returned (.tuple #[.slice none 0 0, .int .i64 5]) ∧ w = w' := by
  go_enter Try.func72, Try.ntmps72
  go_wp2
  go_ret2
  exact ⟨rfl, rfl⟩
set_option maxHeartbeats 2000000 in
theorem carried_c (A : Option Addr) (n c : Nat) (xs : List Int) (w : World) (h : RdI w A n xs) (hn : n ≤ 1000000) (hx0 : ∀ x ∈ xs, 0 ≤ x ∧ x ≤ 1000000000000) :
    Calls Try.prog 90 #[.slice A n c] w (IntsOut (trimL (carL xs 0)) w) := by
  have HL := Lib.hid h.len
  have H := Lib.hid h; clear h
  have HX := Lib.hid hx0; clear hx0
  go_enter Try.func90, Try.ntmps90
  go_wp2
  go_loopw [3, 4, 5] (fun v cv iv wr => ∃ (k : Nat) (cy : Int) (C : Option Addr) (q cc : Nat) (acc : List Int), v = .slice C q cc ∧ cv = .int .i64 cy ∧ iv = .int .i64 k ∧ 0 ≤ cy ∧ cy ≤ 1000000000000 ∧ (k : Int) + cy ≤ n + 2000000000000 ∧ q ≤ k ∧
    Hid (carL xs 0 = acc ++ carL (xs.drop k) cy) ∧ Own wr w.heap.size 2 1 C q cc (acc.map i64) ∧ Below w.heap.size w wr) (fun _ cv iv _ => (n - (intOf iv).toNat) * 4000000000000 + (intOf cv).toNat)
  case atStart => exact ⟨0, 0, _, 0, 0, [], rfl, rfl, rfl, by omega, by omega, by omega, by omega, rfl, Own.lit (Nat.le_refl _), below_size.alloc (Nat.le_refl _) _⟩
  case round =>
    obtain ⟨k, cy, C, q, cc, acc, rfl, rfl, rfl, hc0, hc1, hkc, hqk, hr, own, hb⟩ := hrel
    have HO := Lib.hid own; have HB := Lib.hid hb
    have hqa : q = acc.length := by have := own.len; simp at this; omega
    have HQ := Lib.hid hqa
    have hBs := hb.size
    clear own hb hqa
    by_cases hlt : k < n
    · obtain ⟨ad, x, rfl, hab, hx, hcx⟩ := (H.out.below HB.out).at_ hlt
      have hxb := HX.out x (List.mem_of_getElem? hx)
      have g1 : decide ((k : Int) < (n : Int)) = true := by simp; omega
      have g1' : decide (k < n) = true := by simp; omega
      have HF := Lib.hid (show carL xs 0 = (acc ++ [(cy + x) % 1000000]) ++ carL (xs.drop (k + 1)) ((cy + x) / 1000000) by rw [hr.out, drop_at hx, carL]; simp)
      clear hx
      go_wp2_with (at_builtin; refine wp_app1 (by rfl) _ _ 24 2 (.int .i64 0) 8 (by rfl) Try.underlying24 info_i64 rfl w.heap.size C q cc (acc.map i64) (by rfl) (by exact HO.out.alloc _) wr.heap.size (i64 ((cy + x) % 1000000)) (by rfl) (by exact new_cell _ _ _ 0) rfl (by omega) (by omega) (by simp; omega) ?_; intro g' cap w2 own2 hb2 hk2 hg2 hz2)
      have O2 := Lib.hid own2; have HB2 := Lib.hid hb2
      clear own2 hb2 hk2 hg2 hz2
      go_wp2
      go_roundw
      case rel =>
        exact ⟨k + 1, (cy + x) / 1000000, some ⟨g', 0, none⟩, q + 1, cap, acc ++ [(cy + x) % 1000000], rfl, rfl, by go_num, by omega, by omega, by omega, by omega, HF.out, by rw [List.map_append]; exact O2.out, (HB.out.alloc HB.out.size _).trans HB2.out⟩
      case measure => simp [intOf]; omega
    · have g1 : decide ((k : Int) < (n : Int)) = false := by simp; omega
      have g1' : decide (k < n) = false := by simp; omega
      by_cases hcy : 0 < cy
      · have g2 : decide (0 < cy) = true := by simpa using hcy
        have HF := Lib.hid (show carL xs 0 = (acc ++ [cy % 1000000]) ++ carL (xs.drop (k + 1)) (cy / 1000000) by rw [hr.out, List.drop_eq_nil_of_le (by rw [HL.out]; omega), List.drop_eq_nil_of_le (by rw [HL.out]; omega), carL_pos hcy]; simp)
        go_wp2_with (at_builtin; refine wp_app1 (by rfl) _ _ 24 2 (.int .i64 0) 8 (by rfl) Try.underlying24 info_i64 rfl w.heap.size C q cc (acc.map i64) (by rfl) (by exact HO.out.alloc _) wr.heap.size (i64 (cy % 1000000)) (by rfl) (by exact new_cell _ _ _ 0) rfl (by omega) (by omega) (by simp; omega) ?_; intro g' cap w2 own2 hb2 hk2 hg2 hz2)
        have O2 := Lib.hid own2; have HB2 := Lib.hid hb2
        clear own2 hb2 hk2 hg2 hz2
        go_wp2
        go_roundw
        case rel =>
          exact ⟨k + 1, cy / 1000000, some ⟨g', 0, none⟩, q + 1, cap, acc ++ [cy % 1000000], rfl, rfl, by go_num, by omega, by omega, by omega, by omega, HF.out, by rw [List.map_append]; exact O2.out, (HB.out.alloc HB.out.size _).trans HB2.out⟩
        case measure => simp [intOf]; omega
      · have g2 : decide (0 < cy) = false := by simpa using hcy
        have HF := Lib.hid (show carL xs 0 = acc by rw [hr.out, List.drop_eq_nil_of_le (by rw [HL.out]; omega), carL_zero hcy]; simp)
        have hqc : q ≤ cc := by
          rcases HO.out.2 with ⟨hv, h0⟩ | ⟨g, cap, cur, hv, _, _, h1, _⟩
          · omega
          · injection hv with _ _ hv; omega
        go_wp2_with (go_at_call 98; refine (trimmed_c _ _ _ acc _ (by exact HO.out.wr.rdI) (by omega) hqc).mono ?_; rintro e w' ⟨rfl, rfl⟩)
        go_ret
        rw [HF.out]
        refine ⟨C, cc, rfl, ?_, HB.out⟩
        have h := HO.out.wr.take (k := (trimL acc).length) (by have := trimL_len acc; have := HQ.out; omega)
        rw [← List.map_take, ← trimL_take] at h
        exact h
end Go.Proofs.Ytbpeagnldgefeaa
