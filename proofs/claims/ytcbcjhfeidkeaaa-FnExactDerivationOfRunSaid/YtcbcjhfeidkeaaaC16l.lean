/-
  Contracts of chapter 16: the run of a word, of the program, with a visit that does nothing.
-/
import Derived.Test.YtcbcjhfeidkeaaaC16k
namespace Go.Proofs.Ytcbcjhfeidkeaaa
open Go.RowKit

theorem visit0_c (cs : Array Value) (w : World) : Calls Try.prog 45 #[.agg cs] w fun e' w' => e' = .returned (.tuple #[]) ∧ Below w.heap.size w w' := by
  go_enter Try.func45, Try.ntmps45
  go_wp2_with fail
  go_end0
  exact ⟨rfl, below_size.alloc (Nat.le_refl _) _⟩
/-- the last word, the steps, whether there is no further one, a code -/
def RnOut (RV : Option (List Int × Nat × Bool)) (w : World) (e' : Ending) (w' : World) : Prop :=
  match RV with
  | none => e' = .returned (.tuple #[.slice none 0 0, i64 0, .bool false, i64 5]) ∧ Below w.heap.size w w'
  | some (t, k, q) => ∃ A n c, e' = .returned (.tuple #[.slice A n c, i64 k, .bool q, i64 0]) ∧ RdI w' A n t ∧ n ≤ c ∧ n ≤ 400 ∧ Below w.heap.size w w'
set_option maxHeartbeats 8000000 in
set_option maxRecDepth 100000 in
theorem run_c (s e : Int) (P : Option Addr) (m pc : Nat) (ts : List RwT) (X : List Rw) (WA : Option Addr) (n c : Nat) (ws : List Int) (most : Nat) (RV : Option (List Int × Nat × Bool)) (w : World) (hL : RwD w P m ts) (hX : ts.map datR = X) (hg : ∀ r ∈ X, GoodR s e r) (h : RdI w WA n ws) (hw : ∃ j, OneS (stB s e) ws j) (hn : n ≤ 400) (hnc : n ≤ c) (hm : m ≤ 60) (hmost : most ≤ 100000) (hRV : runW (stB s e) X most ws 0 = RV) :
    Calls Try.prog 67 #[.agg #[.int .i64 s, .int .i64 e], .slice P m pc, .slice WA n c, .int .i64 most, .func (.func 45) #[] #[]] w (RnOut RV w) := by
  obtain ⟨w0, hw0⟩ : ∃ w0, (w.alloc (.cells #[.int .i64 s, .int .i64 e] 99)) = w0 := ⟨_, rfl⟩
  have E0 := Lib.hid (show Below w.heap.size w w0 by rw [← hw0]; exact (below_size.alloc (Nat.le_refl _) _))
  have KA := Lib.hid (show Blk w0 w.heap.size 99 #[.int .i64 s, .int .i64 e] by rw [← hw0]; exact Blk.new _ _ _)
  have H := Lib.hid (RdI.below h E0.out); have HD := Lib.hid (hL.below E0.out)
  have HX := Lib.hid hX; have HG := Lib.hid hg; have HRV := Lib.hid hRV; have HW := Lib.hid hw
  clear h hL hX hg hRV hw
  go_enter Try.func67, Try.ntmps67
  go_wp2_with fail
  clear hw0
  go_loopw [2, 14] (fun xv iv wr => ∃ (k b : Nat) (A : Option Addr) (l c' : Nat) (us : List Int), k + b = most ∧ iv = .int .i64 k ∧ xv = .slice A l c' ∧ l ≤ 400 ∧ l ≤ c' ∧ Hid (RdI wr A l us) ∧ Hid (∃ j, OneS (stB s e) us j) ∧ Hid (runW (stB s e) X b us k = RV) ∧ Below w0.heap.size w0 wr) (fun _ iv _ => most - (intOf iv).toNat)
  case atStart => exact ⟨0, most, WA, n, c, ws, by omega, rfl, rfl, hn, hnc, H.out, HW.out, HRV.out, below_size⟩
  case round =>
    obtain ⟨k, b, A, l, c', us, hkb, rfl, rfl, hl4, hlc, hR, hO, hV, hb⟩ := hrel
    have ER := Lib.hid (below_chain E0.out E0.out.size hb)
    have KAr := Lib.hid (KA.out.keep hb); have HB := Lib.hid hb
    have k0 : wr.cell? ⟨w.heap.size, 0, none⟩ = some (.int .i64 s) := KAr.out.cell 0
    have k1 : wr.cell? ⟨w.heap.size, 1, none⟩ = some (.int .i64 e) := KAr.out.cell 1
    obtain ⟨MV, hMV⟩ : ∃ MV, moveR (stB s e) us X 0 = MV := ⟨_, rfl⟩
    have HV := Lib.hid (show runWK (stB s e) X b us k MV = RV by rw [← hV.out, ← hMV, runW_eq])
    have HMV := Lib.hid hMV
    have HDr := Lib.hid (HD.out.below hb)
    have HKB := Lib.hid hkb
    have hkm : k ≤ most := by omega
    clear hV hb hMV hkb
    go_wp2_with fail
    refine (onlyMove_c s e P m pc ts X A l c' us MV wr HDr.out HX.out HG.out hR.out hO.out hl4 hlc hm HMV.out).mono ?_
    rintro e' w3 hmv
    clear k0 k1
    rcases MV with _ | ⟨k2, a, R⟩
    · obtain ⟨rfl, hb3⟩ := hmv
      have E3 := Lib.hid (below_chain ER.out ER.out.size hb3)
      have R3 := Lib.hid (RdI.below hR.out hb3)
      obtain ⟨wx, hwx⟩ : ∃ wx, w3.alloc (.cells #[.int .i64 0, .int .i64 0, .slice none 0 0] 75) = wx := ⟨_, rfl⟩
      have Ex3 := Lib.hid (show Below w3.heap.size w3 wx by rw [← hwx]; exact below_size.alloc (Nat.le_refl _) _)
      have Ex := Lib.hid (below_chain E3.out E3.out.size Ex3.out)
      have KX := Lib.hid (show Blk wx w3.heap.size 75 #[.int .i64 0, .int .i64 0, .slice none 0 0] by rw [← hwx]; exact Blk.new _ _ _)
      have x0 : wx.cell? ⟨w3.heap.size, 0, none⟩ = some (.int .i64 0) := KX.out.cell 0
      have x1 : wx.cell? ⟨w3.heap.size, 1, none⟩ = some (.int .i64 0) := KX.out.cell 1
      have x2 : wx.cell? ⟨w3.heap.size, 2, none⟩ = some (.slice none 0 0) := KX.out.cell 2
      have f0 := KX.out.frozen 0; have f1 := KX.out.frozen 1; have f2 := KX.out.frozen 2
      obtain ⟨wy, hwy⟩ : ∃ wy, ((wx.setCell ⟨w3.heap.size, 0, none⟩ (.int .i64 0)).setCell ⟨w3.heap.size, 1, none⟩ (.int .i64 0)).setCell ⟨w3.heap.size, 2, none⟩ (.slice none 0 0) = wy := ⟨_, rfl⟩
      have Ey3 := Lib.hid (show Below w3.heap.size w3 wy by rw [← hwy]; exact ((Ex3.out.setCell (by simp) _).setCell (by simp) _).setCell (by simp) _)
      have Ey := Lib.hid (below_chain E3.out E3.out.size Ey3.out)
      clear hb3
      go_wp2_with fail
      refine bodyPost_ret (v := .tuple #[.slice A l c', .int .i64 k, .bool true, .int .i64 0]) (by simp [results, Try.results67, go_sem]) rfl ?_
      rw [← HV.out]
      exact ⟨A, l, c', rfl, RdI.below R3.out Ey3.out, hlc, hl4, Ey.out⟩
    · obtain ⟨A3, c3, rfl, hW3, hc3, hb3⟩ := hmv
      have HB3 := Lib.hid hb3
      have E3 := Lib.hid (below_chain ER.out ER.out.size hb3)
      have R3 := Lib.hid (RdI.below hR.out hb3)
      obtain ⟨rl, hrl⟩ : ∃ rl, R.length = rl := ⟨_, rfl⟩
      have HRL := Lib.hid hrl
      rw [hrl] at hc3 hW3 ⊢
      have W3 := Lib.hid hW3.rdI
      obtain ⟨w4, hw4⟩ : ∃ w4, w3.alloc (.cells #[.int .i64 k2, .int .i64 a, .slice A3 rl c3] 75) = w4 := ⟨_, rfl⟩
      have E34 := Lib.hid (show Below w3.heap.size w3 w4 by rw [← hw4]; exact below_size.alloc (Nat.le_refl _) _)
      have E4 := Lib.hid (below_chain E3.out E3.out.size E34.out)
      have K4 := Lib.hid (show Blk w4 w3.heap.size 75 #[.int .i64 k2, .int .i64 a, .slice A3 rl c3] by rw [← hw4]; exact Blk.new _ _ _)
      have x0 : w4.cell? ⟨w3.heap.size, 0, none⟩ = some (.int .i64 k2) := K4.out.cell 0
      have x1 : w4.cell? ⟨w3.heap.size, 1, none⟩ = some (.int .i64 a) := K4.out.cell 1
      have x2 : w4.cell? ⟨w3.heap.size, 2, none⟩ = some (.slice A3 rl c3) := K4.out.cell 2
      clear hb3 hW3 hrl
      by_cases hb0 : b = 0
      · have hk : k = most := by have := HKB.out; omega
        have HV2 := Lib.hid (show some (us, k, false) = RV by rw [← HV.out, runWK, if_pos hb0])
        have g0 : ((k : Int) == (most : Int)) = true := by simp [hk]
        have HK := Lib.hid hk
        clear hk hb0
        go_wp2_with fail
        refine bodyPost_ret (v := .tuple #[.slice A l c', .int .i64 k, .bool false, .int .i64 0]) (by simp [results, Try.results67, go_sem]) rfl ?_
        rw [← HV2.out]
        exact ⟨A, l, c', rfl, RdI.below R3.out E34.out, hlc, hl4, E4.out⟩
      · have g0 : ((k : Int) == (most : Int)) = false := by simp; have := HKB.out; omega
        by_cases h4 : rl ≤ 400
        · have g4 : decide ((400 : Int) < (rl : Int)) = false := by rw [decide_eq_false_iff_not]; omega
          have HV2 := Lib.hid (show runW (stB s e) X (b - 1) R (k + 1) = RV by rw [← HV.out, runWK, if_neg hb0, if_pos (by rw [HRL.out]; exact h4)])
          obtain ⟨b', rfl⟩ : ∃ b', b = b' + 1 := ⟨b - 1, by omega⟩
          have HO3 := Lib.hid (show ∃ j, OneS (stB s e) R j by
            obtain ⟨r, _, hr, hp, hRR⟩ := moveR_some HMV.out
            have hgr := HG.out r (List.mem_of_getElem? hr)
            obtain ⟨j, hj⟩ := hO.out
            obtain ⟨i, hi⟩ := hgr.fr
            obtain ⟨i', hi'⟩ := hgr.to
            rw [hRR]; exact ⟨_, hj.put hi hi' hp⟩)
          have HR4 := Lib.hid (show RdI w4 A3 rl R from by rw [← HRL.out] at W3 ⊢; exact RdI.below W3.out E34.out)
          have EB4 := Lib.hid (HB.out.trans ((below_chain HB3.out HB3.out.size E34.out).mono HB.out.size))
          go_wp2_with fail
          refine (visit0_c _ _).mono ?_
          rintro e' w5 ⟨rfl, hb5⟩
          have HB5 := Lib.hid hb5
          have y2 : w5.cell? ⟨w3.heap.size, 2, none⟩ = some (.slice A3 rl c3) := (K4.out.keep hb5).cell 2
          clear hb5 x0 x1 x2
          go_wp2_with fail
          go_roundw
          case rel => exact ⟨k + 1, b', A3, rl, c3, R, by have := HKB.out; omega, by go_num, rfl, h4, hc3, RdI.below HR4.out HB5.out, HO3.out, HV2.out, EB4.out.trans (HB5.out.mono EB4.out.size)⟩
          case measure => have := HKB.out; simp [intOf]; omega
        · have g4 : decide ((400 : Int) < (rl : Int)) = true := by rw [decide_eq_true_eq]; omega
          have HV2 := Lib.hid (show none = RV by rw [← HV.out, runWK, if_neg hb0, if_neg (by rw [HRL.out]; exact h4)])
          go_wp2_with fail
          refine bodyPost_ret (v := .tuple #[.slice none 0 0, .int .i64 0, .bool false, .int .i64 5]) (by simp [results, Try.results67, go_sem]) rfl ?_
          rw [← HV2.out]
          exact ⟨rfl, E4.out⟩
end Go.Proofs.Ytcbcjhfeidkeaaa
