/-
  The helpers of the laws at []Expr: sizes, copies, comparisons, marks.
-/
import Derived.Test.YtkchgjegdmcnaaaDoorSegX
namespace Go.Proofs.YtkchgjegdmcnaaaDoor
open Go.RowKit

theorem szExprS_c (A : Option Addr) (n c : Nat) (left : Int) (w : World) (hn : n ≤ 9223372036854775807) (hl : 0 ≤ left) (hl' : left ≤ 1000000000000) :
    Calls Tryd.prog 30 #[.slice A n c, .int .i64 left] w fun e w' => e = .returned (.int .i64 (szOf left n)) ∧ Below w.heap.size w w' := by
  by_cases h : left - n < 0
  · go_enter Tryd.func30, Tryd.ntmps30
    go_wp2
    go_ret
    exact ⟨by rw [szOf, if_pos h]; rfl, below_size⟩
  · go_enter Tryd.func30, Tryd.ntmps30
    go_wp2
    go_ret
    exact ⟨by rw [szOf, if_neg (by omega)]; rfl, below_size⟩
theorem toExpr_c (a b : Int) (w : World) : Calls Tryd.prog 50 #[.agg #[.int .i64 a, .int .i64 b]] w fun e w' => e = .returned (.agg #[.int .i64 a, .int .i64 b]) ∧ Below w.heap.size w w' := by
  go_enter Tryd.func50, Tryd.ntmps50
  go_wp2_with fail
  refine bodyPost_ret (v := .agg #[.int .i64 a, .int .i64 b]) (by simp [results, Tryd.results50, go_sem]) rfl ⟨rfl, ?_⟩
  exact (by have hzz := ((below_size : Below w.heap.size w w)).size; repeat' (first | (with_reducible exact (below_size : Below w.heap.size w w)) | (with_reducible refine Below.alloc ?_ ?_ _) | (with_reducible refine Below.setCell ?_ ?_ _) | (with_reducible refine below_drew ?_) | omega | (simp; done) | (simp; omega)))
theorem info_Expr : (Tryd.prog.info? 77).map (fun i => (i.zero, i.size, i.bytes)) = some (some (.agg #[.int .i64 0, .int .i64 0]), 2, 16) := by kernel_rfl
set_option maxHeartbeats 2000000 in
theorem toExprS_c (A : Option Addr) (n c : Nat) (xs : List (Int × Int)) (w : World) (h : Rd2 w A n xs) (hn : n ≤ 1000000000000) :
    Calls Tryd.prog 35 #[.slice A n c] w fun e w' => e = .returned (.slice (some ⟨w.heap.size, 0, none⟩) n n) ∧ Wr w' w.heap.size w'.heap.size (some ⟨w.heap.size, 0, none⟩) (n * 2) (xs.flatMap enc2) ∧ Below w.heap.size w w' := by
  have HL := Lib.hid h.len
  have HF := Lib.hid (show (xs.flatMap enc2).length = n * 2 by rw [flatX_len enc2 2 enc2_len, HL.out])
  have H := Lib.hid h; clear h
  have hmk := run_mkK (P := Tryd.prog) 40 77 _ (.int .i64 0) 16 2 (by omega) Tryd.underlying40 info_Expr rfl .i64 .i64 n n (Nat.le_refl _) (by omega) (by omega)
  go_enter Tryd.func35, Tryd.ntmps35
  go_wp2
  clear hmk
  go_loopw [4] (fun i wr => ∃ k : Nat, k ≤ n ∧ i = .int .i64 k ∧ Blk wr w.heap.size 77 (fillV (xs.flatMap enc2) (.int .i64 0) (k * 2)) ∧ Below w.heap.size w wr) (fun i _ => n - (intOf i).toNat)
  case atStart =>
    refine ⟨0, by omega, rfl, ?_, below_size.alloc (Nat.le_refl _) _⟩
    rw [Nat.zero_mul, fillV_zero, HF.out]; exact Blk.new _ _ _
  case round =>
    obtain ⟨k, hk, rfl, hblk, hb⟩ := hrel
    have HB := Lib.hid hblk; have Hb := Lib.hid hb
    by_cases hlt : k < n
    · obtain ⟨ad, x, rfl, hab, hx, hc0, hc1⟩ := (H.out.below hb).at_ hlt
      obtain ⟨p0, p1⟩ := x
      have X0 := Lib.hid (show (xs.flatMap enc2)[k * 2]? = some (.int .i64 p0) from flatX_at enc2 2 enc2_len xs k 0 _ hx (by omega))
      have X1 := Lib.hid (show (xs.flatMap enc2)[k * 2 + 1]? = some (.int .i64 p1) from flatX_at enc2 2 enc2_len xs k 1 _ hx (by omega))
      clear hx hblk hb
      go_wp2_with fail
      refine (toExpr_c _ _ _).mono ?_
      rintro e w1 ⟨rfl, hb1⟩
      have N := Lib.hid (HB.out.keep hb1)
      have d0 := N.out.cell (k * 2); have f0 := N.out.frozen (k * 2)
      have d1 := N.out.cell (k * 2 + 1); have f1 := N.out.frozen (k * 2 + 1)
      rw [fillV_at (by rw [HF.out]; omega)] at d0
      rw [fillV_past' (by omega) (by rw [HF.out]; omega)] at d1
      have hz1 := hb1.size
      have BB := Lib.hid (below_chain Hb.out Hb.out.size hb1)
      clear hb1
      go_wp2
      go_roundw
      case rel =>
        refine ⟨k + 1, by omega, by go_num, ?_, (by have hzz := (BB.out).size; repeat' (first | (with_reducible exact BB.out) | (with_reducible refine Below.alloc ?_ ?_ _) | (with_reducible refine Below.setCell ?_ ?_ _) | (with_reducible refine below_drew ?_) | omega | (simp; done) | (simp; omega)))⟩
        have h2 := ((N.out.set_ (k * 2) (.int .i64 p0)).set_ (k * 2 + 1) (.int .i64 p1))
        rw [fillV_set X0.out, fillV_set X1.out] at h2
        rw [show (k + 1) * 2 = k * 2 + 1 + 1 by omega]
        exact h2
      case measure => simp [intOf]; omega
    · have HK := Lib.hid (show k = n by omega)
      clear hblk hb
      go_wp2
      go_ret
      refine ⟨rfl, ?_, Hb.out⟩
      have := HB.out
      rw [HK.out, ← HF.out, fillV_all] at this
      exact this.wr (Nat.le_refl _) this.lt (by rw [← HF.out]; exact List.take_length) (by rw [← HF.out]; exact Nat.le_refl _)
theorem eqExpr_t (a b : Int) (w : World) : Calls Tryd.prog 59 #[.agg #[.int .i64 a, .int .i64 b], .agg #[.int .i64 a, .int .i64 b]] w fun e w' => e = .returned (.bool true) ∧ Below w.heap.size w w' := by
  have g0 : (a != a) = false := by simp
  have g1 : (b != b) = false := by simp
  go_enter Tryd.func59, Tryd.ntmps59
  go_wp2
  go_ret
  exact ⟨rfl, (below_size.alloc (Nat.le_refl _) _).alloc (by simp) _⟩
set_option maxHeartbeats 2000000 in
theorem eqExprS_t (A A' : Option Addr) (n n' c c' : Nat) (xs : List (Int × Int)) (w : World) (h : Rd2 w A n xs) (h' : Rd2 w A' n' xs) (hn : n ≤ 1000000000000) :
    Calls Tryd.prog 42 #[.slice A n c, .slice A' n' c'] w fun e w' => e = .returned (.bool true) ∧ Below w.heap.size w w' := by
  have hnn : n' = n := by rw [← h.len, ← h'.len]
  subst hnn
  have H := Lib.hid h; have H' := Lib.hid h'; clear h h'
  have hne : ((n' : Int) != (n' : Int)) = false := by simp
  go_enter Tryd.func42, Tryd.ntmps42
  go_wp2
  go_loopw [5] (fun i wr => ∃ k : Nat, k ≤ n' ∧ i = .int .i64 k ∧ Below w.heap.size w wr) (fun i _ => n' - (intOf i).toNat)
  case atStart => exact ⟨0, by omega, rfl, below_size⟩
  case round =>
    obtain ⟨k, hk, rfl, hb⟩ := hrel
    have HB := Lib.hid hb
    by_cases hlt : k < n'
    · obtain ⟨ad, x, rfl, hab, hx, hc0, hc1⟩ := (H.out.below hb).at_ hlt
      obtain ⟨ad', y, rfl, hab', hy, hd0, hd1⟩ := (H'.out.below hb).at_ hlt
      rw [hx] at hy
      injection hy with hy
      subst hy
      obtain ⟨p0, p1⟩ := x
      clear hx hb
      have x0 := Ext.cell hc0; have y0 := Ext.cell hd0; have x1 := Ext.cell hc1; have y1 := Ext.cell hd1
      go_wp2
      refine Mix.wp_region_mix [0, 0, 0, 3, 0, 0, 0, 3, 1, 0] (fun w' => ∃ x : Ext wr, w' = x.w) (by kernel_rfl) (by kernel_rfl) (InExt.drew _) ?_
      repeat (first | (refine Mix.wpMix_read (by rfl) ?_; go_big_quiet_step (fail); refine wpQuiet_nil ?_) | (refine Mix.wpMix_pure (by rfl) ?_; go_big_quiet_step (fail); refine wpQuiet_nil ?_))
      refine Mix.wpMix_chg (by rfl) (fun K hK => ?_)
      go_wp2_with fail
      refine (eqExpr_t _ _ _).mono ?_
      rintro e w1 ⟨rfl, hb⟩
      have em := below_of_drew hb
      go_wp2_with fail
      refine hK _ _ ⟨⟨_, em⟩, rfl⟩ ?_
      clear hK K
      repeat (first | (refine Mix.wpMix_read (by rfl) ?_; go_big_quiet_step (fail); refine wpQuiet_nil ?_) | (refine Mix.wpMix_pure (by rfl) ?_; go_big_quiet_step (fail); refine wpQuiet_nil ?_))
      (refine Mix.wpMix_nil ?_; try simp only [Exit.then])
      go_wp2
      go_roundw
      case rel => exact ⟨k + 1, by omega, by go_num, below_chain HB.out HB.out.size em⟩
      case measure => simp [intOf]; omega
    · clear hb
      go_wp2
      go_ret
      exact ⟨rfl, HB.out⟩
set_option maxHeartbeats 2000000 in
theorem markExprS_c (A : Option Addr) (n c lo hi : Nat) (vs : List Value) (k0 : Int) (w : World) (h : Wr w lo hi A (n * 2) vs) (hn : n ≤ 1000000000) (h0 : 0 ≤ k0) (h1 : k0 ≤ 1000000000000) :
    Calls Tryd.prog 26 #[.slice A n c, .int .i64 k0] w fun e w' => e = .returned (.int .i64 (k0 + (n * 2 : Nat))) ∧ Wr w' lo hi A (n * 2) ((marks k0 (n * 2)).map i64) ∧ KeepR lo hi w w' := by
  have H := Lib.hid h; clear h
  go_enter Tryd.func26, Tryd.ntmps26
  go_wp2
  go_loopw [1, 5] (fun q i wr => ∃ k : Nat, k ≤ n ∧ i = .int .i64 k ∧ q = .int .i64 (k0 + (k : Int) * 2) ∧ MarkTo wr lo hi A (n * 2) k0 (k * 2) ∧ KeepR lo hi w wr) (fun _ i _ => n - (intOf i).toNat)
  case atStart => exact ⟨0, by omega, rfl, by simp, ⟨vs, H.out, fun j hj => absurd hj (by omega)⟩, KeepR.refl _ _ _⟩
  case round =>
    obtain ⟨k, hk, rfl, rfl, hm, hb⟩ := hrel
    by_cases hlt : k < n
    · obtain ⟨ad, v0, rfl, hB, hH, hab, hc0, hf0⟩ := hm.cells (i := k * 2) (by omega)
      obtain ⟨ad1, v1, e1, _, _, _, hc1, hf1⟩ := hm.cells (i := k * 2 + 1) (by omega)
      injection e1 with e1; subst e1
      rw [← next_1 ad (k * 2)] at hc1 hf1
      have s1 : (wr.setCell (ad.add (k * 2)) (.int .i64 (k0 + (k : Int) * 2))).cell? ⟨(ad.add (k * 2)).block, (ad.add (k * 2)).off + 1, none⟩ = some v1 := set_other (.int .i64 (k0 + (k : Int) * 2)) (hc1) (by simp)
      have HM := Lib.hid hm
      have Hb := Lib.hid hb
      clear hm hb
      go_wp2
      go_roundw
      case rel =>
        refine ⟨k + 1, by omega, by go_num, by go_num, ?_, ((Hb.out.setCell (by rw [block_add]; exact hB) (by rw [block_add]; exact hH) _).setCell (by show lo ≤ (ad.add _).block; rw [block_add]; exact hB) (by show (ad.add _).block < hi; rw [block_add]; exact hH) _)⟩
        rw [show (k + 1) * 2 = k * 2 + 1 + 1 by omega]
        exact (HM.out.step rfl (by omega) (by omega)).step (next_1 ad _) (by omega) (by omega)
      case measure => simp [intOf]; omega
    · have HK := Lib.hid (show k = n by omega)
      have HM := Lib.hid hm
      have Hb := Lib.hid hb
      clear hm hb
      go_wp2
      go_ret
      refine ⟨by rw [← HK.out]; simp, ?_, Hb.out⟩
      have := HM.out
      rw [HK.out] at this
      exact this.all
set_option maxHeartbeats 2000000 in
theorem heldExprS_c (A : Option Addr) (n c : Nat) (k0 : Int) (w : World) (h : Rd w A (n * 2) ((marks k0 (n * 2)).map i64)) (hn : n ≤ 1000000000) (h0 : 0 ≤ k0) (h1 : k0 ≤ 1000000000000) :
    Calls Tryd.prog 27 #[.slice A n c, .int .i64 k0] w fun e w' => e = .returned (.int .i64 (k0 + (n * 2 : Nat))) ∧ Below w.heap.size w w' := by
  have H := Lib.hid h; clear h
  go_enter Tryd.func27, Tryd.ntmps27
  go_wp2
  go_loop [1, 5] (fun q i => ∃ k : Nat, k ≤ n ∧ i = .int .i64 k ∧ q = .int .i64 (k0 + (k : Int) * 2)) (fun _ i => n - (intOf i).toNat)
  case atStart => exact ⟨0, by omega, rfl, by simp⟩
  case round =>
    obtain ⟨k, hk, rfl, rfl⟩ := hrel
    by_cases hlt : k < n
    · obtain ⟨ad, rfl, hab, hc0⟩ := marked_at H.out (i := k * 2) (by omega)
      rw [show k0 + ((k * 2 : Nat) : Int) = k0 + (k : Int) * 2 by omega] at hc0
      obtain ⟨ad1, e1, _, hc1⟩ := marked_at H.out (i := k * 2 + 1) (by omega)
      injection e1 with e1; subst e1
      rw [← next_1 ad (k * 2), show k0 + ((k * 2 + 1 : Nat) : Int) = k0 + (k : Int) * 2 + 1 by omega] at hc1
      have g0 : ((k0 + (k : Int) * 2) != (k0 + (k : Int) * 2)) = false := by simp
      have g1 : ((k0 + (k : Int) * 2 + 1) != (k0 + (k : Int) * 2 + 1)) = false := by simp
      go_wp2
      go_round
      case rel => exact ⟨k + 1, by omega, by go_num, by go_num⟩
      case measure => simp [intOf]; omega
    · have HK := Lib.hid (show k = n by omega)
      go_wp2
      go_ret
      exact ⟨by rw [← HK.out]; simp, below_size⟩
end Go.Proofs.YtkchgjegdmcnaaaDoor
