/-
  Slices of a struct of two numbers (expressions): how they read, and the laws' helpers on them.
-/
import Derived.Test.YtbpeagnldgefeaaLawI
namespace Go.Proofs.Ytbpeagnldgefeaa
open Go.RowKit

def flatE : List (Int × Int) → List Value
  | [] => []
  | x :: l => i64 x.1 :: i64 x.2 :: flatE l
theorem flatE_len : ∀ xs : List (Int × Int), (flatE xs).length = xs.length * 2
  | [] => rfl
  | x :: l => by simp only [flatE, List.length_cons, flatE_len l]; omega
theorem flatE_at : ∀ {xs : List (Int × Int)} {k : Nat} {x : Int × Int}, xs[k]? = some x → (flatE xs)[k * 2]? = some (i64 x.1) ∧ (flatE xs)[k * 2 + 1]? = some (i64 x.2)
  | [], k, x, h => by simp at h
  | y :: l, 0, x, h => by simp at h; subst h; simp [flatE]
  | y :: l, k + 1, x, h => by
    have := flatE_at (xs := l) (k := k) (x := x) (by simpa using h)
    rw [show (k + 1) * 2 = k * 2 + 1 + 1 by omega, show k * 2 + 1 + 1 + 1 = (k * 2 + 1) + 1 + 1 by omega]
    simpa [flatE] using this
theorem next_of (ad : Addr) (m : Nat) : (⟨(ad.add m).block, (ad.add m).off + 1, none⟩ : Addr) = ad.add (m + 1) := by
  rw [block_add, off_add, Addr.add, if_neg (by omega), Nat.add_assoc]
def RdE (w : World) (A : Option Addr) (n : Nat) (xs : List (Int × Int)) : Prop := Rd w A (n * 2) (flatE xs)
section
variable {w w' : World} {n : Nat} {A : Option Addr} {xs : List (Int × Int)}
theorem RdE.len (h : RdE w A n xs) : xs.length = n := by have := h.1; rw [flatE_len] at this; omega
theorem RdE.at_ {k : Nat} (h : RdE w A n xs) (hk : k < n) : ∃ ad x, A = some ad ∧ ad.block < w.heap.size ∧ xs[k]? = some x ∧ w.cell? (ad.add (k * 2)) = some (i64 x.1) ∧ w.cell? ⟨(ad.add (k * 2)).block, (ad.add (k * 2)).off + 1, none⟩ = some (i64 x.2) := by
  obtain ⟨ad, e, hlt, hc⟩ := h.2 (by omega)
  have hl := h.len
  have hx : xs[k]? = some xs[k] := List.getElem?_eq_getElem (by omega)
  obtain ⟨h0, h1⟩ := flatE_at hx
  exact ⟨ad, xs[k], e, hlt, hx, hc _ _ h0, by rw [next_of]; exact hc _ _ h1⟩
theorem RdE.alloc (h : RdE w A n xs) (o : Obj) : RdE (w.alloc o) A n xs := Rd.alloc h o
theorem RdE.below (h : RdE w A n xs) (hb : Below w.heap.size w w') : RdE w' A n xs := Rd.below h hb
end

theorem fillV_past {vs : List Value} {z : Value} {k j : Nat} (h : k ≤ j) (hj : j < vs.length) : (fillV vs z k)[j]? = some z := by
  unfold fillV
  rw [List.getElem?_toArray, List.getElem?_append_right (by simp; omega), List.getElem?_replicate, if_pos (by simp; omega)]
theorem made_two (z : Value) (n : Nat) : madeCells #[z, z] n = Array.replicate n z := by
  apply Array.ext
  · simp [madeCells]
  · intro i h1 h2
    have : i % 2 = 0 ∨ i % 2 = 1 := by omega
    rcases this with h | h <;> simp [madeCells, h]
/-- 'make([]T, n)', two like cells an element -/
theorem run_mk2 {P : Program} (t e : TypeId) (zz z : Value) (bytes : Nat) (ht : P.underlying t = some (.slice e)) (hi : (P.info? e).map (fun i => (i.zero, i.size, i.bytes)) = some (some zz, 2, bytes)) (hz : zz.cells = #[z, z])
    (kl kc : IntKind) (n c : Nat) (hnc : n ≤ c) (hb : bytes * c ≤ 281474976710656) (h63 : c ≤ 9223372036854775807) (w : World) :
    (Instr.makeSlice t (.int kl (n : Int)) (.int kc (c : Int))).run P w = .ok (.slice (some ⟨w.heap.size, 0, none⟩) n c) (w.alloc (.cells (Array.replicate (c * 2) z) e)) := by
  obtain ⟨i, hi0, hi1⟩ := Option.map_eq_some_iff.1 hi
  simp only [Prod.mk.injEq] at hi1
  obtain ⟨h1, h2, h3⟩ := hi1
  have hb' : (i.bytes : Int) * (c : Int) ≤ 281474976710656 := by
    have h : ((i.bytes * c : Nat) : Int) ≤ 281474976710656 := by rw [h3]; omega
    rwa [Int.natCast_mul] at h
  have hr := run_make (P := P) w t e i zz ht hi0 h1 kl kc n c (by omega) (by omega) hb' (by omega)
  simp only [Int.toNat_natCast, h2, hz, made_two] at hr
  exact hr

theorem szExprS_c (A : Option Addr) (n c : Nat) (left : Int) (w : World) (hn : n ≤ 9223372036854775807) (hl : 0 ≤ left) (hl' : left ≤ 1000000000000) :
    Calls Try.prog 47 #[.slice A n c, .int .i64 left] w fun e w' => e = .returned (.int .i64 (szOf left n)) ∧ Below w.heap.size w w' := by
  by_cases h : left - n < 0
  · go_enter Try.func47, Try.ntmps47
    go_wp2
    go_ret
    exact ⟨by rw [szOf, if_pos h]; rfl, below_size⟩
  · go_enter Try.func47, Try.ntmps47
    go_wp2
    go_ret
    exact ⟨by rw [szOf, if_neg (by omega)]; rfl, below_size⟩
theorem toExpr_c (a b : Int) (w : World) : Calls Try.prog 78 #[.agg #[.int .i64 a, .int .i64 b]] w fun e w' => e = .returned (.agg #[.int .i64 a, .int .i64 b]) ∧ Below w.heap.size w w' := by
  go_enter Try.func78, Try.ntmps78
  go_wp2_with fail
  refine bodyPost_ret (v := .agg #[.int .i64 a, .int .i64 b]) (by simp [results, Try.results78, go_sem]) rfl ⟨rfl, ?_⟩
  exact (by have hzz := ((below_size : Below w.heap.size w w)).size; repeat' (first | (with_reducible exact (below_size : Below w.heap.size w w)) | (with_reducible refine Below.alloc ?_ ?_ _) | (with_reducible refine Below.setCell ?_ ?_ _) | (with_reducible refine below_drew ?_) | omega | (simp; done) | (simp; omega)))
theorem info_Expr : (Try.prog.info? 84).map (fun i => (i.zero, i.size, i.bytes)) = some (some (.agg #[.int .i64 0, .int .i64 0]), 2, 16) := by kernel_rfl
set_option maxHeartbeats 1000000 in
theorem toExprS_c (A : Option Addr) (n c : Nat) (xs : List (Int × Int)) (w : World) (h : RdE w A n xs) (hn : n ≤ 1000000000000) :
    Calls Try.prog 49 #[.slice A n c] w fun e w' => e = .returned (.slice (some ⟨w.heap.size, 0, none⟩) n n) ∧ Wr w' w.heap.size w'.heap.size (some ⟨w.heap.size, 0, none⟩) (n * 2) (flatE xs) ∧ Below w.heap.size w w' := by
  have HL := Lib.hid h.len
  have HF := Lib.hid (show (flatE xs).length = n * 2 by rw [flatE_len, HL.out])
  have H := Lib.hid h; clear h
  have hmk := run_mk2 (P := Try.prog) 58 84 _ (.int .i64 0) 16 Try.underlying58 info_Expr rfl .i64 .i64 n n (Nat.le_refl _) (by omega) (by omega)
  go_enter Try.func49, Try.ntmps49
  go_wp2
  clear hmk
  go_loopw [4] (fun i wr => ∃ k : Nat, k ≤ n ∧ i = .int .i64 k ∧ Blk wr w.heap.size 84 (fillV (flatE xs) (.int .i64 0) (k * 2)) ∧ Below w.heap.size w wr) (fun i _ => n - (intOf i).toNat)
  case atStart =>
    refine ⟨0, by omega, rfl, ?_, below_size.alloc (Nat.le_refl _) _⟩
    rw [Nat.zero_mul, fillV_zero, HF.out]; exact Blk.new _ _ _
  case round =>
    obtain ⟨k, hk, rfl, hblk, hb⟩ := hrel
    have HB := Lib.hid hblk; have Hb := Lib.hid hb
    by_cases hlt : k < n
    · obtain ⟨ad, x, rfl, hab, hx, hc0, hc1⟩ := (H.out.below hb).at_ hlt
      obtain ⟨a0, a1⟩ := flatE_at hx
      have X0 := Lib.hid a0; have X1 := Lib.hid a1
      obtain ⟨p, q⟩ := x
      clear hx hblk hb a0 a1
      go_wp2_with fail
      refine (toExpr_c _ _ _).mono ?_
      rintro e w1 ⟨rfl, hb1⟩
      have N := Lib.hid (HB.out.keep hb1)
      have d0 := N.out.cell (k * 2); have f0 := N.out.frozen (k * 2)
      have d1 := N.out.cell (k * 2 + 1); have f1 := N.out.frozen (k * 2 + 1)
      rw [fillV_at (by rw [HF.out]; omega)] at d0
      have hz1 := hb1.size
      have BB := Lib.hid (below_chain Hb.out Hb.out.size hb1)
      rw [fillV_past (by omega) (by rw [HF.out]; omega)] at d1
      clear hb1
      go_wp2
      go_roundw
      case rel =>
        refine ⟨k + 1, by omega, by go_num, ?_, (by have hzz := (BB.out).size; repeat' (first | (with_reducible exact BB.out) | (with_reducible refine Below.alloc ?_ ?_ _) | (with_reducible refine Below.setCell ?_ ?_ _) | (with_reducible refine below_drew ?_) | omega | (simp; done) | (simp; omega)))⟩
        have h2 := (N.out.set_ (k * 2) (.int .i64 p)).set_ (k * 2 + 1) (.int .i64 q)
        rw [fillV_set X0.out, fillV_set X1.out] at h2
        rw [show (k + 1) * 2 = k * 2 + 1 + 1 by omega]
        exact h2
      case measure => simp [intOf]; omega
    · have HK := Lib.hid (show k = n by omega)
      clear hblk hb
      go_wp2
      go_ret
      refine ⟨rfl, ?_, Hb.out⟩
      have := HB.out
      rw [HK.out, ← HF.out, fillV_all] at this
      exact this.wr (Nat.le_refl _) this.lt (by rw [← HF.out]; simp) (by simp [HF.out])
theorem eqExpr_t (a b : Int) (w : World) : Calls Try.prog 81 #[.agg #[.int .i64 a, .int .i64 b], .agg #[.int .i64 a, .int .i64 b]] w fun e w' => e = .returned (.bool true) ∧ Below w.heap.size w w' := by
  have g1 : (a != a) = false := by simp
  have g2 : (b != b) = false := by simp
  go_enter Try.func81, Try.ntmps81
  go_wp2
  go_ret
  exact ⟨rfl, (below_size.alloc (Nat.le_refl _) _).alloc (by simp) _⟩
set_option maxHeartbeats 1000000 in
theorem eqExprS_t (A A' : Option Addr) (n n' c c' : Nat) (xs : List (Int × Int)) (w : World) (h : RdE w A n xs) (h' : RdE w A' n' xs) (hn : n ≤ 1000000000000) :
    Calls Try.prog 51 #[.slice A n c, .slice A' n' c'] w fun e w' => e = .returned (.bool true) ∧ Below w.heap.size w w' := by
  have hnn : n' = n := by rw [← h.len, ← h'.len]
  subst hnn
  have H := Lib.hid h; have H' := Lib.hid h'; clear h h'
  have hne : ((n' : Int) != (n' : Int)) = false := by simp
  go_enter Try.func51, Try.ntmps51
  go_wp2
  go_loopw [5] (fun i wr => ∃ k : Nat, k ≤ n' ∧ i = .int .i64 k ∧ Below w.heap.size w wr) (fun i _ => n' - (intOf i).toNat)
  case atStart => exact ⟨0, by omega, rfl, below_size⟩
  case round =>
    obtain ⟨k, hk, rfl, hb⟩ := hrel
    have HB := Lib.hid hb
    by_cases hlt : k < n'
    · obtain ⟨ad, x, rfl, hab, hx, hc0, hc1⟩ := (H.out.below hb).at_ hlt
      obtain ⟨ad', y, rfl, hab', hy, hd0, hd1⟩ := (H'.out.below hb).at_ hlt
      rw [hx] at hy
      injection hy with hy
      subst hy
      obtain ⟨p, q⟩ := x
      clear hx hb
      have x0 := Ext.cell hc0; have x1 := Ext.cell hc1; have y0 := Ext.cell hd0; have y1 := Ext.cell hd1
      go_wp2
      refine Mix.wp_region_mix [0, 0, 0, 3, 0, 0, 0, 3, 1, 0] (fun w' => ∃ x : Ext wr, w' = x.w) (by kernel_rfl) (by kernel_rfl) (InExt.drew _) ?_
      repeat (first | (refine Mix.wpMix_read (by rfl) ?_; go_big_quiet_step (fail); refine wpQuiet_nil ?_) | (refine Mix.wpMix_pure (by rfl) ?_; go_big_quiet_step (fail); refine wpQuiet_nil ?_))
      refine Mix.wpMix_chg (by rfl) (fun K hK => ?_)
      go_wp2_with fail
      refine (eqExpr_t _ _ _).mono ?_
      rintro e w1 ⟨rfl, hb⟩
      have em := below_of_drew hb
      go_wp2_with fail
      refine hK _ _ ⟨⟨_, em⟩, rfl⟩ ?_
      clear hK K
      repeat (first | (refine Mix.wpMix_read (by rfl) ?_; go_big_quiet_step (fail); refine wpQuiet_nil ?_) | (refine Mix.wpMix_pure (by rfl) ?_; go_big_quiet_step (fail); refine wpQuiet_nil ?_))
      (refine Mix.wpMix_nil ?_; try simp only [Exit.then])
      go_wp2
      go_roundw
      case rel => exact ⟨k + 1, by omega, by go_num, below_chain HB.out HB.out.size em⟩
      case measure => simp [intOf]; omega
    · clear hb
      go_wp2
      go_ret
      exact ⟨rfl, HB.out⟩
end Go.Proofs.Ytbpeagnldgefeaa
