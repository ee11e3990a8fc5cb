/-
  The helpers of the laws at []Func: sizes, copies, comparisons, marks.
-/
import Derived.Test.YtnoapoaajidncaaDoorSegX
namespace Go.Proofs.YtnoapoaajidncaaDoor
open Go.RowKit

theorem eqFunc_t (a b c0 : Int) (w : World) : Calls Tryd.prog 15 #[.agg #[.int .i64 a, .int .i64 b, .int .i64 c0], .agg #[.int .i64 a, .int .i64 b, .int .i64 c0]] w fun e w' => e = .returned (.bool true) ∧ Below w.heap.size w w' := by
  have g0 : (a != a) = false := by simp
  have g1 : (b != b) = false := by simp
  have g2 : (c0 != c0) = false := by simp
  go_enter Tryd.func15, Tryd.ntmps15
  go_wp2
  go_ret
  exact ⟨rfl, (below_size.alloc (Nat.le_refl _) _).alloc (by simp) _⟩
set_option maxHeartbeats 2000000 in
theorem eqFuncS_t (A A' : Option Addr) (n n' c c' : Nat) (xs : List (Int × Int × Int)) (w : World) (h : Rd3 w A n xs) (h' : Rd3 w A' n' xs) (hn : n ≤ 1000000000000) :
    Calls Tryd.prog 7 #[.slice A n c, .slice A' n' c'] w fun e w' => e = .returned (.bool true) ∧ Below w.heap.size w w' := by
  have hnn : n' = n := by rw [← h.len, ← h'.len]
  subst hnn
  have H := Lib.hid h; have H' := Lib.hid h'; clear h h'
  have hne : ((n' : Int) != (n' : Int)) = false := by simp
  go_enter Tryd.func7, Tryd.ntmps7
  go_wp2
  go_loopw [5] (fun i wr => ∃ k : Nat, k ≤ n' ∧ i = .int .i64 k ∧ Below w.heap.size w wr) (fun i _ => n' - (intOf i).toNat)
  case atStart => exact ⟨0, by omega, rfl, below_size⟩
  case round =>
    obtain ⟨k, hk, rfl, hb⟩ := hrel
    have HB := Lib.hid hb
    by_cases hlt : k < n'
    · obtain ⟨ad, x, rfl, hab, hx, hc0, hc1, hc2⟩ := (H.out.below hb).at_ hlt
      obtain ⟨ad', y, rfl, hab', hy, hd0, hd1, hd2⟩ := (H'.out.below hb).at_ hlt
      rw [hx] at hy
      injection hy with hy
      subst hy
      obtain ⟨p0, p1, p2⟩ := x
      clear hx hb
      have x0 := Ext.cell hc0; have y0 := Ext.cell hd0; have x1 := Ext.cell hc1; have y1 := Ext.cell hd1; have x2 := Ext.cell hc2; have y2 := Ext.cell hd2
      go_wp2
      refine Mix.wp_region_mix [0, 0, 0, 3, 0, 0, 0, 3, 1, 0] (fun w' => ∃ x : Ext wr, w' = x.w) (by kernel_rfl) (by kernel_rfl) (InExt.drew _) ?_
      repeat (first | (refine Mix.wpMix_read (by rfl) ?_; go_big_quiet_step (fail); refine wpQuiet_nil ?_) | (refine Mix.wpMix_pure (by rfl) ?_; go_big_quiet_step (fail); refine wpQuiet_nil ?_))
      refine Mix.wpMix_chg (by rfl) (fun K hK => ?_)
      go_wp2_with fail
      refine (eqFunc_t _ _ _ _).mono ?_
      rintro e w1 ⟨rfl, hb⟩
      have em := below_of_drew hb
      go_wp2_with fail
      refine hK _ _ ⟨⟨_, em⟩, rfl⟩ ?_
      clear hK K
      repeat (first | (refine Mix.wpMix_read (by rfl) ?_; go_big_quiet_step (fail); refine wpQuiet_nil ?_) | (refine Mix.wpMix_pure (by rfl) ?_; go_big_quiet_step (fail); refine wpQuiet_nil ?_))
      (refine Mix.wpMix_nil ?_; try simp only [Exit.then])
      go_wp2
      go_roundw
      case rel => exact ⟨k + 1, by omega, by go_num, below_chain HB.out HB.out.size em⟩
      case measure => simp [intOf]; omega
    · clear hb
      go_wp2
      go_ret
      exact ⟨rfl, HB.out⟩
set_option maxHeartbeats 2000000 in
theorem markFuncS_c (A : Option Addr) (n c lo hi : Nat) (vs : List Value) (k0 : Int) (w : World) (h : Wr w lo hi A (n * 3) vs) (hn : n ≤ 1000000000) (h0 : 0 ≤ k0) (h1 : k0 ≤ 1000000000000) :
    Calls Tryd.prog 8 #[.slice A n c, .int .i64 k0] w fun e w' => e = .returned (.int .i64 (k0 + (n * 3 : Nat))) ∧ Wr w' lo hi A (n * 3) ((marks k0 (n * 3)).map i64) ∧ KeepR lo hi w w' := by
  have H := Lib.hid h; clear h
  go_enter Tryd.func8, Tryd.ntmps8
  go_wp2
  go_loopw [1, 5] (fun q i wr => ∃ k : Nat, k ≤ n ∧ i = .int .i64 k ∧ q = .int .i64 (k0 + (k : Int) * 3) ∧ MarkTo wr lo hi A (n * 3) k0 (k * 3) ∧ KeepR lo hi w wr) (fun _ i _ => n - (intOf i).toNat)
  case atStart => exact ⟨0, by omega, rfl, by simp, ⟨vs, H.out, fun j hj => absurd hj (by omega)⟩, KeepR.refl _ _ _⟩
  case round =>
    obtain ⟨k, hk, rfl, rfl, hm, hb⟩ := hrel
    by_cases hlt : k < n
    · obtain ⟨ad, v0, rfl, hB, hH, hab, hc0, hf0⟩ := hm.cells (i := k * 3) (by omega)
      obtain ⟨ad1, v1, e1, _, _, _, hc1, hf1⟩ := hm.cells (i := k * 3 + 1) (by omega)
      injection e1 with e1; subst e1
      rw [← next_1 ad (k * 3)] at hc1 hf1
      obtain ⟨ad2, v2, e2, _, _, _, hc2, hf2⟩ := hm.cells (i := k * 3 + 1 + 1) (by omega)
      injection e2 with e2; subst e2
      rw [← next_2 ad (k * 3)] at hc2 hf2
      have s1 : (wr.setCell (ad.add (k * 3)) (.int .i64 (k0 + (k : Int) * 3))).cell? ⟨(ad.add (k * 3)).block, (ad.add (k * 3)).off + 1, none⟩ = some v1 := set_other (.int .i64 (k0 + (k : Int) * 3)) (hc1) (by simp)
      have s2 : ((wr.setCell (ad.add (k * 3)) (.int .i64 (k0 + (k : Int) * 3))).setCell ⟨(ad.add (k * 3)).block, (ad.add (k * 3)).off + 1, none⟩ (.int .i64 (k0 + (k : Int) * 3 + 1))).cell? ⟨(ad.add (k * 3)).block, (ad.add (k * 3)).off + 2, none⟩ = some v2 := set_other (.int .i64 (k0 + (k : Int) * 3 + 1)) (set_other (.int .i64 (k0 + (k : Int) * 3)) (hc2) (by simp)) (by simp)
      have HM := Lib.hid hm
      have Hb := Lib.hid hb
      clear hm hb
      go_wp2
      go_roundw
      case rel =>
        refine ⟨k + 1, by omega, by go_num, by go_num, ?_, (((Hb.out.setCell (by rw [block_add]; exact hB) (by rw [block_add]; exact hH) _).setCell (by show lo ≤ (ad.add _).block; rw [block_add]; exact hB) (by show (ad.add _).block < hi; rw [block_add]; exact hH) _).setCell (by show lo ≤ (ad.add _).block; rw [block_add]; exact hB) (by show (ad.add _).block < hi; rw [block_add]; exact hH) _)⟩
        rw [show (k + 1) * 3 = k * 3 + 1 + 1 + 1 by omega]
        exact ((HM.out.step rfl (by omega) (by omega)).step (next_1 ad _) (by omega) (by omega)).step (next_2 ad _) (by omega) (by omega)
      case measure => simp [intOf]; omega
    · have HK := Lib.hid (show k = n by omega)
      have HM := Lib.hid hm
      have Hb := Lib.hid hb
      clear hm hb
      go_wp2
      go_ret
      refine ⟨by rw [← HK.out]; simp, ?_, Hb.out⟩
      have := HM.out
      rw [HK.out] at this
      exact this.all
set_option maxHeartbeats 2000000 in
theorem heldFuncS_c (A : Option Addr) (n c : Nat) (k0 : Int) (w : World) (h : Rd w A (n * 3) ((marks k0 (n * 3)).map i64)) (hn : n ≤ 1000000000) (h0 : 0 ≤ k0) (h1 : k0 ≤ 1000000000000) :
    Calls Tryd.prog 9 #[.slice A n c, .int .i64 k0] w fun e w' => e = .returned (.int .i64 (k0 + (n * 3 : Nat))) ∧ Below w.heap.size w w' := by
  have H := Lib.hid h; clear h
  go_enter Tryd.func9, Tryd.ntmps9
  go_wp2
  go_loop [1, 5] (fun q i => ∃ k : Nat, k ≤ n ∧ i = .int .i64 k ∧ q = .int .i64 (k0 + (k : Int) * 3)) (fun _ i => n - (intOf i).toNat)
  case atStart => exact ⟨0, by omega, rfl, by simp⟩
  case round =>
    obtain ⟨k, hk, rfl, rfl⟩ := hrel
    by_cases hlt : k < n
    · obtain ⟨ad, rfl, hab, hc0⟩ := marked_at H.out (i := k * 3) (by omega)
      rw [show k0 + ((k * 3 : Nat) : Int) = k0 + (k : Int) * 3 by omega] at hc0
      obtain ⟨ad1, e1, _, hc1⟩ := marked_at H.out (i := k * 3 + 1) (by omega)
      injection e1 with e1; subst e1
      rw [← next_1 ad (k * 3), show k0 + ((k * 3 + 1 : Nat) : Int) = k0 + (k : Int) * 3 + 1 by omega] at hc1
      obtain ⟨ad2, e2, _, hc2⟩ := marked_at H.out (i := k * 3 + 1 + 1) (by omega)
      injection e2 with e2; subst e2
      rw [← next_2 ad (k * 3), show k0 + ((k * 3 + 1 + 1 : Nat) : Int) = k0 + (k : Int) * 3 + 1 + 1 by omega] at hc2
      have g0 : ((k0 + (k : Int) * 3) != (k0 + (k : Int) * 3)) = false := by simp
      have g1 : ((k0 + (k : Int) * 3 + 1) != (k0 + (k : Int) * 3 + 1)) = false := by simp
      have g2 : ((k0 + (k : Int) * 3 + 1 + 1) != (k0 + (k : Int) * 3 + 1 + 1)) = false := by simp
      go_wp2
      go_round
      case rel => exact ⟨k + 1, by omega, by go_num, by go_num⟩
      case measure => simp [intOf]; omega
    · have HK := Lib.hid (show k = n by omega)
      go_wp2
      go_ret
      exact ⟨by rw [← HK.out]; simp, below_size⟩
end Go.Proofs.YtnoapoaajidncaaDoor
