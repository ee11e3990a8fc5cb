/-
  The helpers of the laws at []Rule: sizes, copies, comparisons, marks.
-/
import Derived.Test.YtdendllginlidaaGreatDoorSegX
namespace Go.Proofs.YtdendllginlidaaGreatDoor
open Go.RowKit

theorem szRuleS_c (A : Option Addr) (n c : Nat) (left : Int) (w : World) (hn : n ≤ 9223372036854775807) (hl : 0 ≤ left) (hl' : left ≤ 1000000000000) :
    Calls Tryz.prog 19 #[.slice A n c, .int .i64 left] w fun e w' => e = .returned (.int .i64 (szOf left n)) ∧ Below w.heap.size w w' := by
  by_cases h : left - n < 0
  · go_enter Tryz.func19, Tryz.ntmps19
    go_wp2
    go_ret
    exact ⟨by rw [szOf, if_pos h]; rfl, below_size⟩
  · go_enter Tryz.func19, Tryz.ntmps19
    go_wp2
    go_ret
    exact ⟨by rw [szOf, if_neg (by omega)]; rfl, below_size⟩
theorem toRule_c (a b c0 : Int) (w : World) : Calls Tryz.prog 53 #[.agg #[.int .i64 a, .int .i64 b, .int .i64 c0]] w fun e w' => e = .returned (.agg #[.int .i64 a, .int .i64 b, .int .i64 c0]) ∧ Below w.heap.size w w' := by
  go_enter Tryz.func53, Tryz.ntmps53
  go_wp2_with fail
  refine bodyPost_ret (v := .agg #[.int .i64 a, .int .i64 b, .int .i64 c0]) (by simp [results, Tryz.results53, go_sem]) rfl ⟨rfl, ?_⟩
  exact (by have hzz := ((below_size : Below w.heap.size w w)).size; repeat' (first | (with_reducible exact (below_size : Below w.heap.size w w)) | (with_reducible refine Below.alloc ?_ ?_ _) | (with_reducible refine Below.setCell ?_ ?_ _) | (with_reducible refine below_drew ?_) | omega | (simp; done) | (simp; omega)))
theorem info_Rule : (Tryz.prog.info? 80).map (fun i => (i.zero, i.size, i.bytes)) = some (some (.agg #[.int .i64 0, .int .i64 0, .int .i64 0]), 3, 24) := by kernel_rfl
set_option maxHeartbeats 2000000 in
theorem toRuleS_c (A : Option Addr) (n c : Nat) (xs : List (Int × Int × Int)) (w : World) (h : Rd3 w A n xs) (hn : n ≤ 1000000000000) :
    Calls Tryz.prog 25 #[.slice A n c] w fun e w' => e = .returned (.slice (some ⟨w.heap.size, 0, none⟩) n n) ∧ Wr w' w.heap.size w'.heap.size (some ⟨w.heap.size, 0, none⟩) (n * 3) (xs.flatMap enc3) ∧ Below w.heap.size w w' := by
  have HL := Lib.hid h.len
  have HF := Lib.hid (show (xs.flatMap enc3).length = n * 3 by rw [flatX_len enc3 3 enc3_len, HL.out])
  have H := Lib.hid h; clear h
  have hmk := run_mkK (P := Tryz.prog) 31 80 _ (.int .i64 0) 24 3 (by omega) Tryz.underlying31 info_Rule rfl .i64 .i64 n n (Nat.le_refl _) (by omega) (by omega)
  go_enter Tryz.func25, Tryz.ntmps25
  go_wp2
  clear hmk
  go_loopw [4] (fun i wr => ∃ k : Nat, k ≤ n ∧ i = .int .i64 k ∧ Blk wr w.heap.size 80 (fillV (xs.flatMap enc3) (.int .i64 0) (k * 3)) ∧ Below w.heap.size w wr) (fun i _ => n - (intOf i).toNat)
  case atStart =>
    refine ⟨0, by omega, rfl, ?_, below_size.alloc (Nat.le_refl _) _⟩
    rw [Nat.zero_mul, fillV_zero, HF.out]; exact Blk.new _ _ _
  case round =>
    obtain ⟨k, hk, rfl, hblk, hb⟩ := hrel
    have HB := Lib.hid hblk; have Hb := Lib.hid hb
    by_cases hlt : k < n
    · obtain ⟨ad, x, rfl, hab, hx, hc0, hc1, hc2⟩ := (H.out.below hb).at_ hlt
      obtain ⟨p0, p1, p2⟩ := x
      have X0 := Lib.hid (show (xs.flatMap enc3)[k * 3]? = some (.int .i64 p0) from flatX_at enc3 3 enc3_len xs k 0 _ hx (by omega))
      have X1 := Lib.hid (show (xs.flatMap enc3)[k * 3 + 1]? = some (.int .i64 p1) from flatX_at enc3 3 enc3_len xs k 1 _ hx (by omega))
      have X2 := Lib.hid (show (xs.flatMap enc3)[k * 3 + 2]? = some (.int .i64 p2) from flatX_at enc3 3 enc3_len xs k 2 _ hx (by omega))
      clear hx hblk hb
      go_wp2_with fail
      refine (toRule_c _ _ _ _).mono ?_
      rintro e w1 ⟨rfl, hb1⟩
      have N := Lib.hid (HB.out.keep hb1)
      have d0 := N.out.cell (k * 3); have f0 := N.out.frozen (k * 3)
      have d1 := N.out.cell (k * 3 + 1); have f1 := N.out.frozen (k * 3 + 1)
      have d2 := N.out.cell (k * 3 + 2); have f2 := N.out.frozen (k * 3 + 2)
      rw [fillV_at (by rw [HF.out]; omega)] at d0
      rw [fillV_past' (by omega) (by rw [HF.out]; omega)] at d1
      rw [fillV_past' (by omega) (by rw [HF.out]; omega)] at d2
      have hz1 := hb1.size
      have BB := Lib.hid (below_chain Hb.out Hb.out.size hb1)
      clear hb1
      go_wp2
      go_roundw
      case rel =>
        refine ⟨k + 1, by omega, by go_num, ?_, (by have hzz := (BB.out).size; repeat' (first | (with_reducible exact BB.out) | (with_reducible refine Below.alloc ?_ ?_ _) | (with_reducible refine Below.setCell ?_ ?_ _) | (with_reducible refine below_drew ?_) | omega | (simp; done) | (simp; omega)))⟩
        have h2 := (((N.out.set_ (k * 3) (.int .i64 p0)).set_ (k * 3 + 1) (.int .i64 p1)).set_ (k * 3 + 2) (.int .i64 p2))
        rw [fillV_set X0.out, fillV_set X1.out, fillV_set X2.out] at h2
        rw [show (k + 1) * 3 = k * 3 + 1 + 1 + 1 by omega]
        exact h2
      case measure => simp [intOf]; omega
    · have HK := Lib.hid (show k = n by omega)
      clear hblk hb
      go_wp2
      go_ret
      refine ⟨rfl, ?_, Hb.out⟩
      have := HB.out
      rw [HK.out, ← HF.out, fillV_all] at this
      exact this.wr (Nat.le_refl _) this.lt (by rw [← HF.out]; exact List.take_length) (by rw [← HF.out]; exact Nat.le_refl _)
theorem eqRule_t (a b c0 : Int) (w : World) : Calls Tryz.prog 61 #[.agg #[.int .i64 a, .int .i64 b, .int .i64 c0], .agg #[.int .i64 a, .int .i64 b, .int .i64 c0]] w fun e w' => e = .returned (.bool true) ∧ Below w.heap.size w w' := by
  have g0 : (a != a) = false := by simp
  have g1 : (b != b) = false := by simp
  have g2 : (c0 != c0) = false := by simp
  go_enter Tryz.func61, Tryz.ntmps61
  go_wp2
  go_ret
  exact ⟨rfl, (below_size.alloc (Nat.le_refl _) _).alloc (by simp) _⟩
set_option maxHeartbeats 2000000 in
theorem eqRuleS_t (A A' : Option Addr) (n n' c c' : Nat) (xs : List (Int × Int × Int)) (w : World) (h : Rd3 w A n xs) (h' : Rd3 w A' n' xs) (hn : n ≤ 1000000000000) :
    Calls Tryz.prog 33 #[.slice A n c, .slice A' n' c'] w fun e w' => e = .returned (.bool true) ∧ Below w.heap.size w w' := by
  have hnn : n' = n := by rw [← h.len, ← h'.len]
  subst hnn
  have H := Lib.hid h; have H' := Lib.hid h'; clear h h'
  have hne : ((n' : Int) != (n' : Int)) = false := by simp
  go_enter Tryz.func33, Tryz.ntmps33
  go_wp2
  go_loopw [5] (fun i wr => ∃ k : Nat, k ≤ n' ∧ i = .int .i64 k ∧ Below w.heap.size w wr) (fun i _ => n' - (intOf i).toNat)
  case atStart => exact ⟨0, by omega, rfl, below_size⟩
  case round =>
    obtain ⟨k, hk, rfl, hb⟩ := hrel
    have HB := Lib.hid hb
    by_cases hlt : k < n'
    · obtain ⟨ad, x, rfl, hab, hx, hc0, hc1, hc2⟩ := (H.out.below hb).at_ hlt
      obtain ⟨ad', y, rfl, hab', hy, hd0, hd1, hd2⟩ := (H'.out.below hb).at_ hlt
      rw [hx] at hy
      injection hy with hy
      subst hy
      obtain ⟨p0, p1, p2⟩ := x
      clear hx hb
      have x0 := Ext.cell hc0; have y0 := Ext.cell hd0; have x1 := Ext.cell hc1; have y1 := Ext.cell hd1; have x2 := Ext.cell hc2; have y2 := Ext.cell hd2
      go_wp2
      refine Mix.wp_region_mix [0, 0, 0, 3, 0, 0, 0, 3, 1, 0] (fun w' => ∃ x : Ext wr, w' = x.w) (by kernel_rfl) (by kernel_rfl) (InExt.drew _) ?_
      repeat (first | (refine Mix.wpMix_read (by rfl) ?_; go_big_quiet_step (fail); refine wpQuiet_nil ?_) | (refine Mix.wpMix_pure (by rfl) ?_; go_big_quiet_step (fail); refine wpQuiet_nil ?_))
      refine Mix.wpMix_chg (by rfl) (fun K hK => ?_)
      go_wp2_with fail
      refine (eqRule_t _ _ _ _).mono ?_
      rintro e w1 ⟨rfl, hb⟩
      have em := below_of_drew hb
      go_wp2_with fail
      refine hK _ _ ⟨⟨_, em⟩, rfl⟩ ?_
      clear hK K
      repeat (first | (refine Mix.wpMix_read (by rfl) ?_; go_big_quiet_step (fail); refine wpQuiet_nil ?_) | (refine Mix.wpMix_pure (by rfl) ?_; go_big_quiet_step (fail); refine wpQuiet_nil ?_))
      (refine Mix.wpMix_nil ?_; try simp only [Exit.then])
      go_wp2
      go_roundw
      case rel => exact ⟨k + 1, by omega, by go_num, below_chain HB.out HB.out.size em⟩
      case measure => simp [intOf]; omega
    · clear hb
      go_wp2
      go_ret
      exact ⟨rfl, HB.out⟩
set_option maxHeartbeats 2000000 in
theorem markRuleS_c (A : Option Addr) (n c lo hi : Nat) (vs : List Value) (k0 : Int) (w : World) (h : Wr w lo hi A (n * 3) vs) (hn : n ≤ 1000000000) (h0 : 0 ≤ k0) (h1 : k0 ≤ 1000000000000) :
    Calls Tryz.prog 34 #[.slice A n c, .int .i64 k0] w fun e w' => e = .returned (.int .i64 (k0 + (n * 3 : Nat))) ∧ Wr w' lo hi A (n * 3) ((marks k0 (n * 3)).map i64) ∧ KeepR lo hi w w' := by
  have H := Lib.hid h; clear h
  go_enter Tryz.func34, Tryz.ntmps34
  go_wp2
  go_loopw [1, 5] (fun q i wr => ∃ k : Nat, k ≤ n ∧ i = .int .i64 k ∧ q = .int .i64 (k0 + (k : Int) * 3) ∧ MarkTo wr lo hi A (n * 3) k0 (k * 3) ∧ KeepR lo hi w wr) (fun _ i _ => n - (intOf i).toNat)
  case atStart => exact ⟨0, by omega, rfl, by simp, ⟨vs, H.out, fun j hj => absurd hj (by omega)⟩, KeepR.refl _ _ _⟩
  case round =>
    obtain ⟨k, hk, rfl, rfl, hm, hb⟩ := hrel
    by_cases hlt : k < n
    · obtain ⟨ad, v0, rfl, hB, hH, hab, hc0, hf0⟩ := hm.cells (i := k * 3) (by omega)
      obtain ⟨ad1, v1, e1, _, _, _, hc1, hf1⟩ := hm.cells (i := k * 3 + 1) (by omega)
      injection e1 with e1; subst e1
      rw [← next_1 ad (k * 3)] at hc1 hf1
      obtain ⟨ad2, v2, e2, _, _, _, hc2, hf2⟩ := hm.cells (i := k * 3 + 1 + 1) (by omega)
      injection e2 with e2; subst e2
      rw [← next_2 ad (k * 3)] at hc2 hf2
      have s1 : (wr.setCell (ad.add (k * 3)) (.int .i64 (k0 + (k : Int) * 3))).cell? ⟨(ad.add (k * 3)).block, (ad.add (k * 3)).off + 1, none⟩ = some v1 := set_other (.int .i64 (k0 + (k : Int) * 3)) (hc1) (by simp)
      have s2 : ((wr.setCell (ad.add (k * 3)) (.int .i64 (k0 + (k : Int) * 3))).setCell ⟨(ad.add (k * 3)).block, (ad.add (k * 3)).off + 1, none⟩ (.int .i64 (k0 + (k : Int) * 3 + 1))).cell? ⟨(ad.add (k * 3)).block, (ad.add (k * 3)).off + 2, none⟩ = some v2 := set_other (.int .i64 (k0 + (k : Int) * 3 + 1)) (set_other (.int .i64 (k0 + (k : Int) * 3)) (hc2) (by simp)) (by simp)
      have HM := Lib.hid hm
      have Hb := Lib.hid hb
      clear hm hb
      go_wp2
      go_roundw
      case rel =>
        refine ⟨k + 1, by omega, by go_num, by go_num, ?_, (((Hb.out.setCell (by rw [block_add]; exact hB) (by rw [block_add]; exact hH) _).setCell (by show lo ≤ (ad.add _).block; rw [block_add]; exact hB) (by show (ad.add _).block < hi; rw [block_add]; exact hH) _).setCell (by show lo ≤ (ad.add _).block; rw [block_add]; exact hB) (by show (ad.add _).block < hi; rw [block_add]; exact hH) _)⟩
        rw [show (k + 1) * 3 = k * 3 + 1 + 1 + 1 by omega]
        exact ((HM.out.step rfl (by omega) (by omega)).step (next_1 ad _) (by omega) (by omega)).step (next_2 ad _) (by omega) (by omega)
      case measure => simp [intOf]; omega
    · have HK := Lib.hid (show k = n by omega)
      have HM := Lib.hid hm
      have Hb := Lib.hid hb
      clear hm hb
      go_wp2
      go_ret
      refine ⟨by rw [← HK.out]; simp, ?_, Hb.out⟩
      have := HM.out
      rw [HK.out] at this
      exact this.all
end Go.Proofs.YtdendllginlidaaGreatDoor
