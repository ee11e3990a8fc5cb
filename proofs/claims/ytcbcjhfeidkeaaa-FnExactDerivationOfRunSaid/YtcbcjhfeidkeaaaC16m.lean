/-
  Contracts of chapter 16: a run by the rewriting rules, of the program.
-/
import Derived.Test.YtcbcjhfeidkeaaaC16l
namespace Go.Proofs.Ytcbcjhfeidkeaaa
open Go.RowKit

def zeroK : Int × List Int × List Int := (0, [], [])
abbrev RbT := (Int × List Int × List Int) × Int × Bool × Int
def rbC (k : Nat) (b : Bool) : Option (Int × List Int × List Int) → RbT
  | none => (zeroK, 0, false, 5)
  | some c => if roomyB c = true then (c, (k : Int), b, 0) else (zeroK, 0, false, 5)
def rbV (s e : Int) : Option (List Int × Nat × Bool) → RbT
  | none => (zeroK, 0, false, 5)
  | some r => rbC r.2.1 r.2.2 (shownW s e r.1)
def rbW (s e : Int) (X : List Rw) (most : Nat) (W : List Int) : RbT := if W.length ≤ 400 then rbV s e (runW (stB s e) X most W 0) else (zeroK, 0, false, 5)
/-- a run by the rewriting rules: the configuration, the steps, whether it halts, a code -/
def rbR (s e q : Int) (xs ys : List Int) (X : List Rw) (most : Nat) : RbT := if fitsB e X = true then rbW s e X most (wordW s e q xs ys) else (zeroK, 0, false, 5)
def RbOut (R : (Int × List Int × List Int) × Int × Bool × Int) (w : World) (e' : Ending) (w' : World) : Prop :=
  ∃ A n c B m d, e' = .returned (.tuple #[.agg #[i64 R.1.1, .slice A n c, .slice B m d], i64 R.2.1, .bool R.2.2.1, i64 R.2.2.2]) ∧ WrS w' w.heap.size w'.heap.size ([sgI A n R.1.2.1] ++ [sgI B m R.1.2.2]) ∧ (n ≤ 1000000 ∧ m ≤ 1000000) ∧ Below w.heap.size w w'
theorem RbOut.bad {w w' : World} (h : Below w.heap.size w w') : RbOut (zeroK, 0, false, 5) w (.returned (.tuple #[.agg #[i64 0, .slice none 0 0, .slice none 0 0], i64 0, .bool false, i64 5])) w' :=
  ⟨none, 0, 0, none, 0, 0, rfl, ⟨fun s hs => by rcases List.mem_append.1 hs with hs | hs <;> (rw [List.mem_singleton] at hs; subst hs; exact Wr.nil), by
    refine List.pairwise_append.2 ⟨List.pairwise_singleton _ _, List.pairwise_singleton _ _, fun s hs t ht a b ha hb hn hm => ?_⟩
    rw [List.mem_singleton] at hs; subst hs; simp [sgI] at ha⟩, ⟨by omega, by omega⟩, h⟩
set_option maxHeartbeats 8000000 in
set_option maxRecDepth 100000 in
theorem runByRewrites_c (s : Nat) (t e q : Int) (RA : Option Addr) (rn rc : Nat) (rs : List Rule3) (XA : Option Addr) (xn xc : Nat) (xs : List Int) (YA : Option Addr) (yn yc : Nat) (ys : List Int) (X : List Rw) (most : Nat) (RR : (Int × List Int × List Int) × Int × Bool × Int) (w : World) (h : Rd3 w RA rn rs) (hx : RdI w XA xn xs) (hy : RdI w YA yn ys) (hs : 2 ≤ s ∧ s ≤ 6) (he : e = s + t) (ht : 1 ≤ t ∧ t ≤ 1000) (hn : rn ≤ 10000) (hr : ∀ r ∈ rs, r ≠ noneR → 0 ≤ r.2.2 ∧ r.2.2 ≤ 100000) (hX : rwAll s e 0 rs = X) (hg : ∀ r ∈ X, GoodR s e r) (hxn : xn ≤ 200) (hyn : yn ≤ 200) (hq : 0 ≤ q ∧ q < t) (hxl : ∀ x ∈ xs, 0 ≤ x ∧ x < s) (hyl : ∀ x ∈ ys, 0 ≤ x ∧ x < s) (hmost : most ≤ 100000) (hR : rbR s e q xs ys X most = RR) :
    Calls Try.prog 44 #[.agg #[.int .i64 s, .int .i64 t, .slice RA rn rc], .agg #[.int .i64 q, .slice XA xn xc, .slice YA yn yc], .int .i64 most, .func (.func 45) #[] #[]] w (RbOut RR w) := by
  obtain ⟨w0, hw0⟩ : ∃ w0, ((w.alloc (.cells #[.int .i64 s, .int .i64 t, .slice RA rn rc] 35)).alloc (.cells #[.int .i64 q, .slice XA xn xc, .slice YA yn yc] 30)).alloc (.cells #[.int .i64 0, .slice none 0 0, .slice none 0 0] 30) = w0 := ⟨_, rfl⟩
  have E0 := Lib.hid (show Below w.heap.size w w0 by rw [← hw0]; exact ((below_size.alloc (Nat.le_refl _) _).alloc (by simp) _).alloc (by simp; omega) _)
  have KM := Lib.hid (show Blk w0 w.heap.size 35 #[.int .i64 s, .int .i64 t, .slice RA rn rc] by rw [← hw0]; exact ((Blk.new _ _ _).alloc _).alloc _)
  have KC := Lib.hid (show Blk w0 (w.heap.size + 1) 30 #[.int .i64 q, .slice XA xn xc, .slice YA yn yc] by rw [← hw0]; exact (blk_new2 _ _ _ _ (by simp)).alloc _)
  have KR := Lib.hid (show Blk w0 (w.heap.size + 2) 30 #[.int .i64 0, .slice none 0 0, .slice none 0 0] by rw [← hw0]; exact blk_new2 _ _ _ _ (by simp))
  have H := Lib.hid (Rd.below h E0.out); have HX0 := Lib.hid (RdI.below hx E0.out); have HY0 := Lib.hid (RdI.below hy E0.out)
  have HHR := Lib.hid hr; have HHX := Lib.hid hX; have HG := Lib.hid hg; have HE := Lib.hid he; have HRR := Lib.hid hR; have HXL := Lib.hid hxl; have HYL := Lib.hid hyl
  have m0 : w0.cell? ⟨w.heap.size, 0, none⟩ = some (.int .i64 s) := KM.out.cell 0
  have m1 : w0.cell? ⟨w.heap.size, 1, none⟩ = some (.int .i64 t) := KM.out.cell 1
  have m2 : w0.cell? ⟨w.heap.size, 2, none⟩ = some (.slice RA rn rc) := KM.out.cell 2
  clear h hx hy hr hX hg he hR hxl hyl
  go_enter Try.func44, Try.ntmps44
  go_wp2_with fail
  refine (machineToRewrites_c s t e RA rn rc rs X w0 H.out hs HE.out ht hn HHR.out HHX.out).mono ?_
  rintro e' w1 hm
  clear hw0 m0 m1 m2
  cases hf : fitsB e X
  · rw [MtOut, if_neg (by rw [hf]; simp)] at hm
    obtain ⟨rfl, hb1⟩ := hm
    have HR2 := Lib.hid (show (zeroK, 0, false, 5) = RR by rw [← HRR.out, rbR, if_neg (by rw [hf]; simp)])
    have E1 := Lib.hid (below_chain E0.out E0.out.size hb1)
    have KR1 := Lib.hid (KR.out.keep hb1)
    have hz1 : w.heap.size + 2 < w1.heap.size := KR1.out.lt
    obtain ⟨wx, hwx⟩ : ∃ wx, w1.alloc (.cells #[.int .i64 0, .int .i64 0] 99) = wx := ⟨_, rfl⟩
    have KX := Lib.hid (show Blk wx w1.heap.size 99 #[.int .i64 0, .int .i64 0] by rw [← hwx]; exact Blk.new _ _ _)
    have KRx := Lib.hid (show Blk wx (w.heap.size + 2) 30 #[.int .i64 0, .slice none 0 0, .slice none 0 0] by rw [← hwx]; exact KR1.out.alloc _)
    have Ex := Lib.hid (show Below w.heap.size w wx by rw [← hwx]; exact E1.out.alloc (by omega) _)
    obtain ⟨b, hb⟩ : ∃ b, w1.heap.size = b := ⟨_, rfl⟩
    rw [hb] at KX hz1
    have x0 : wx.cell? ⟨b, 0, none⟩ = some (.int .i64 0) := KX.out.cell 0
    have x1 : wx.cell? ⟨b, 1, none⟩ = some (.int .i64 0) := KX.out.cell 1
    have g0 := KX.out.frozen 0; have g1 := KX.out.frozen 1
    obtain ⟨wy, hwy⟩ : ∃ wy, (wx.setCell ⟨b, 0, none⟩ (.int .i64 0)).setCell ⟨b, 1, none⟩ (.int .i64 0) = wy := ⟨_, rfl⟩
    have KRy := Lib.hid (show Blk wy (w.heap.size + 2) 30 #[.int .i64 0, .slice none 0 0, .slice none 0 0] by rw [← hwy]; exact (KRx.out.far (by simp; omega) _).far (by simp; omega) _)
    have Ey := Lib.hid (show Below w.heap.size w wy by rw [← hwy]; exact (Ex.out.setCell (by simp; omega) _).setCell (by simp; omega) _)
    have r0 : wy.cell? ⟨w.heap.size + 2, 0, none⟩ = some (.int .i64 0) := KRy.out.cell 0
    have r1 : wy.cell? ⟨w.heap.size + 2, 1, none⟩ = some (.slice none 0 0) := KRy.out.cell 1
    have r2 : wy.cell? ⟨w.heap.size + 2, 2, none⟩ = some (.slice none 0 0) := KRy.out.cell 2
    have f0 := KRy.out.frozen 0; have f1 := KRy.out.frozen 1; have f2 := KRy.out.frozen 2
    clear hb1 hf
    obtain ⟨w9, hw9⟩ : ∃ w9, ((wy.setCell ⟨w.heap.size + 2, 0, none⟩ (.int .i64 0)).setCell ⟨w.heap.size + 2, 1, none⟩ (.slice none 0 0)).setCell ⟨w.heap.size + 2, 2, none⟩ (.slice none 0 0) = w9 := ⟨_, rfl⟩
    have KZ := Lib.hid (show Blk w9 (w.heap.size + 2) 30 #[.int .i64 0, .slice none 0 0, .slice none 0 0] by rw [← hw9]; exact (((KRy.out.set_ 0 _).set_ 1 _).set_ 2 _))
    have BZ := Lib.hid (show Below w.heap.size w w9 by rw [← hw9]; exact ((Ey.out.setCell (by simp) _).setCell (by simp) _).setCell (by simp) _)
    have y0 : w9.cell? ⟨w.heap.size + 2, 0, none⟩ = some (.int .i64 0) := KZ.out.cell 0
    have y1 : w9.cell? ⟨w.heap.size + 2, 1, none⟩ = some (.slice none 0 0) := KZ.out.cell 1
    have y2 : w9.cell? ⟨w.heap.size + 2, 2, none⟩ = some (.slice none 0 0) := KZ.out.cell 2
    go_wp2_with fail
    refine bodyPost_ret (v := .tuple #[.agg #[.int .i64 0, .slice none 0 0, .slice none 0 0], .int .i64 0, .bool false, .int .i64 5]) (by simp [results, Try.results44, go_sem, y0, y1, y2]) rfl ?_
    rw [← HR2.out]
    exact RbOut.bad BZ.out
  · rw [MtOut, if_pos hf] at hm
    obtain ⟨P, pc, ts, rfl, hL, hT, hb1⟩ := hm
    have hfx : e ≤ 9 ∧ 1 ≤ X.length ∧ X.length ≤ 60 := by
      simp only [fitsB, Bool.and_eq_true, decide_eq_true_eq] at hf
      exact ⟨hf.1.1, hf.1.2, hf.2⟩
    have hXl : ts.length = X.length := by rw [← hT, List.length_map]
    obtain ⟨m, hm⟩ : ∃ m, ts.length = m := ⟨_, rfl⟩
    have hm60 : m ≤ 60 := by omega
    rw [hm] at hL ⊢
    have E1 := Lib.hid (below_chain E0.out E0.out.size hb1)
    have KR1 := Lib.hid (KR.out.keep hb1); have KC1 := Lib.hid (KC.out.keep hb1)
    have D1 := Lib.hid hL.rwD; have HT := Lib.hid hT
    have HX1 := Lib.hid (RdI.below HX0.out hb1); have HY1 := Lib.hid (RdI.below HY0.out hb1)
    have HFX := Lib.hid hfx
    obtain ⟨W, hW⟩ : ∃ W, wordW s e q xs ys = W := ⟨_, rfl⟩
    have HR2 := Lib.hid (show rbW s e X most W = RR by rw [← HRR.out, rbR, if_pos hf, hW])
    have HW := Lib.hid hW
    obtain ⟨w2, hw2⟩ : ∃ w2, w1.alloc (.cells #[.int .i64 s, .int .i64 e] 99) = w2 := ⟨_, rfl⟩
    have E12 := Lib.hid (show Below w1.heap.size w1 w2 by rw [← hw2]; exact below_size.alloc (Nat.le_refl _) _)
    have E2 := Lib.hid (below_chain E1.out E1.out.size E12.out)
    have KA2 := Lib.hid (show Blk w2 w1.heap.size 99 #[.int .i64 s, .int .i64 e] by rw [← hw2]; exact Blk.new _ _ _)
    have KR2 := Lib.hid (KR1.out.keep E12.out); have KC2 := Lib.hid (KC1.out.keep E12.out)
    have a0 : w2.cell? ⟨w1.heap.size, 0, none⟩ = some (.int .i64 s) := KA2.out.cell 0
    have a1 : w2.cell? ⟨w1.heap.size, 1, none⟩ = some (.int .i64 e) := KA2.out.cell 1
    have c0 : w2.cell? ⟨w.heap.size + 1, 0, none⟩ = some (.int .i64 q) := KC2.out.cell 0
    have c1 : w2.cell? ⟨w.heap.size + 1, 1, none⟩ = some (.slice XA xn xc) := KC2.out.cell 1
    have c2 : w2.cell? ⟨w.heap.size + 1, 2, none⟩ = some (.slice YA yn yc) := KC2.out.cell 2
    clear hL hT hb1 hf hfx hXl hm hW KM KC KR KC1 KR1
    go_wp2_with fail
    refine (wordOfConfig_c s e q XA xn xc xs YA yn yc ys W w2 (by exact RdI.below HX1.out E12.out) (by exact RdI.below HY1.out E12.out) (by omega) (by omega) hxn hyn HW.out).mono ?_
    rintro e' w3 ⟨AW, cW, rfl, hRW, hWl, hWc, hb3⟩
    have E3 := Lib.hid (below_chain E2.out E2.out.size hb3)
    have E13 := Lib.hid (below_chain E12.out E12.out.size hb3)
    have KR3 := Lib.hid (KR2.out.keep hb3); have KA3 := Lib.hid (KA2.out.keep hb3)
    have HRW := Lib.hid hRW
    obtain ⟨l, hl⟩ : ∃ l, W.length = l := ⟨_, rfl⟩
    rw [hl] at hWl hWc ⊢
    have HWL := Lib.hid hl
    have hl403 : l ≤ 403 := by omega
    clear hb3 hRW hl hWl a0 a1 c0 c1 c2
    by_cases h4 : l ≤ 400
    · have HR3 := Lib.hid (show rbV s e (runW (stB s e) X most W 0) = RR by rw [← HR2.out, rbW, if_pos (by rw [HWL.out]; exact h4)])
      have a0 : w3.cell? ⟨w1.heap.size, 0, none⟩ = some (.int .i64 s) := KA3.out.cell 0
      have a1 : w3.cell? ⟨w1.heap.size, 1, none⟩ = some (.int .i64 e) := KA3.out.cell 1
      go_wp2_with fail
      refine (fitting_c AW l cW w3 (by omega)).mono ?_
      rintro e' w' ⟨rfl, rfl⟩
      rw [if_pos h4]
      obtain ⟨RV, hRV⟩ : ∃ RV, runW (stB s e) X most W 0 = RV := ⟨_, rfl⟩
      have HRV := Lib.hid hRV
      rw [hRV] at HR3
      have hGW := wordW_good (s := s) (e := e) (q := q) (xs := xs) (ys := ys) (by omega) (by have := HE.out; omega) HXL.out HYL.out
      rw [HW.out] at hGW
      have HGW := Lib.hid hGW
      clear hRV hGW
      go_wp2_with fail
      refine (run_c s e P m pc ts X AW l cW W most RV w3 (D1.out.below E13.out) HT.out HG.out (by have := HRW.out; rw [HWL.out] at this; exact this) HGW.out.one h4 hWc hm60 hmost HRV.out).mono ?_
      rintro e' w4 hrn
      clear a0 a1
      rcases RV with _ | ⟨T, k, b⟩
      · obtain ⟨rfl, hb4⟩ := hrn
        have E4 := Lib.hid (below_chain E3.out E3.out.size hb4)
        have KR4 := Lib.hid (KR3.out.keep hb4)
        have HR4 := Lib.hid (show (zeroK, 0, false, 5) = RR from HR3.out)
        have r0 : w4.cell? ⟨w.heap.size + 2, 0, none⟩ = some (.int .i64 0) := KR4.out.cell 0
        have r1 : w4.cell? ⟨w.heap.size + 2, 1, none⟩ = some (.slice none 0 0) := KR4.out.cell 1
        have r2 : w4.cell? ⟨w.heap.size + 2, 2, none⟩ = some (.slice none 0 0) := KR4.out.cell 2
        have f0 := KR4.out.frozen 0; have f1 := KR4.out.frozen 1; have f2 := KR4.out.frozen 2
        clear hb4
        obtain ⟨w9, hw9⟩ : ∃ w9, ((w4.setCell ⟨w.heap.size + 2, 0, none⟩ (.int .i64 0)).setCell ⟨w.heap.size + 2, 1, none⟩ (.slice none 0 0)).setCell ⟨w.heap.size + 2, 2, none⟩ (.slice none 0 0) = w9 := ⟨_, rfl⟩
        have KZ := Lib.hid (show Blk w9 (w.heap.size + 2) 30 #[.int .i64 0, .slice none 0 0, .slice none 0 0] by rw [← hw9]; exact (((KR4.out.set_ 0 _).set_ 1 _).set_ 2 _))
        have BZ := Lib.hid (show Below w.heap.size w w9 by rw [← hw9]; exact ((E4.out.setCell (by simp) _).setCell (by simp) _).setCell (by simp) _)
        have y0 : w9.cell? ⟨w.heap.size + 2, 0, none⟩ = some (.int .i64 0) := KZ.out.cell 0
        have y1 : w9.cell? ⟨w.heap.size + 2, 1, none⟩ = some (.slice none 0 0) := KZ.out.cell 1
        have y2 : w9.cell? ⟨w.heap.size + 2, 2, none⟩ = some (.slice none 0 0) := KZ.out.cell 2
        go_wp2_with fail
        refine bodyPost_ret (v := .tuple #[.agg #[.int .i64 0, .slice none 0 0, .slice none 0 0], .int .i64 0, .bool false, .int .i64 5]) (by simp [results, Try.results44, go_sem, y0, y1, y2]) rfl ?_
        rw [← HR4.out]
        exact RbOut.bad BZ.out
      · obtain ⟨AT, tn, tc, rfl, hRT, htc, ht4, hb4⟩ := hrn
        have E4 := Lib.hid (below_chain E3.out E3.out.size hb4)
        have KR4 := Lib.hid (KR3.out.keep hb4); have KA4 := Lib.hid (KA3.out.keep hb4)
        have HR4 := Lib.hid (show rbC k b (shownW s e T) = RR from HR3.out)
        have HTT := Lib.hid hRT
        obtain ⟨SV, hSV⟩ : ∃ SV, shownW s e T = SV := ⟨_, rfl⟩
        have HSV := Lib.hid hSV
        rw [hSV] at HR4
        have a0 : w4.cell? ⟨w1.heap.size, 0, none⟩ = some (.int .i64 s) := KA4.out.cell 0
        have a1 : w4.cell? ⟨w1.heap.size, 1, none⟩ = some (.int .i64 e) := KA4.out.cell 1
        clear hb4 hRT hSV
        go_wp2_with fail
        refine (shown_c s e AT tn tc T SV w4 HTT.out (by omega) (by have := HE.out; have := HFX.out; omega) (by omega) htc HSV.out).mono ?_
        rintro e' w5 hsh
        rcases SV with _ | ⟨q2, L, M⟩
        · obtain ⟨rfl, hb5⟩ := hsh
          have HR5 := Lib.hid (show (zeroK, 0, false, 5) = RR from HR4.out)
          have E5 := Lib.hid (below_chain E4.out E4.out.size hb5)
          have KR5 := Lib.hid (KR4.out.keep hb5)
          have hz5 : w.heap.size + 2 < w5.heap.size := KR5.out.lt
          obtain ⟨wx, hwx⟩ : ∃ wx, w5.alloc (.cells #[.int .i64 0, .slice none 0 0, .slice none 0 0] 30) = wx := ⟨_, rfl⟩
          have KX := Lib.hid (show Blk wx w5.heap.size 30 #[.int .i64 0, .slice none 0 0, .slice none 0 0] by rw [← hwx]; exact Blk.new _ _ _)
          have KRx := Lib.hid (show Blk wx (w.heap.size + 2) 30 #[.int .i64 0, .slice none 0 0, .slice none 0 0] by rw [← hwx]; exact KR5.out.alloc _)
          have Ex := Lib.hid (show Below w.heap.size w wx by rw [← hwx]; exact E5.out.alloc (by omega) _)
          obtain ⟨d, hd⟩ : ∃ d, w5.heap.size = d := ⟨_, rfl⟩
          rw [hd] at KX hz5
          have x0 : wx.cell? ⟨d, 0, none⟩ = some (.int .i64 0) := KX.out.cell 0
          have x1 : wx.cell? ⟨d, 1, none⟩ = some (.slice none 0 0) := KX.out.cell 1
          have x2 : wx.cell? ⟨d, 2, none⟩ = some (.slice none 0 0) := KX.out.cell 2
          have g0 := KX.out.frozen 0; have g1 := KX.out.frozen 1; have g2 := KX.out.frozen 2
          obtain ⟨wy, hwy⟩ : ∃ wy, ((wx.setCell ⟨d, 0, none⟩ (.int .i64 0)).setCell ⟨d, 1, none⟩ (.slice none 0 0)).setCell ⟨d, 2, none⟩ (.slice none 0 0) = wy := ⟨_, rfl⟩
          have KRy := Lib.hid (show Blk wy (w.heap.size + 2) 30 #[.int .i64 0, .slice none 0 0, .slice none 0 0] by rw [← hwy]; exact ((KRx.out.far (by simp; omega) _).far (by simp; omega) _).far (by simp; omega) _)
          have Ey := Lib.hid (show Below w.heap.size w wy by rw [← hwy]; exact ((Ex.out.setCell (by simp; omega) _).setCell (by simp; omega) _).setCell (by simp; omega) _)
          have r0 : wy.cell? ⟨w.heap.size + 2, 0, none⟩ = some (.int .i64 0) := KRy.out.cell 0
          have r1 : wy.cell? ⟨w.heap.size + 2, 1, none⟩ = some (.slice none 0 0) := KRy.out.cell 1
          have r2 : wy.cell? ⟨w.heap.size + 2, 2, none⟩ = some (.slice none 0 0) := KRy.out.cell 2
          have f0 := KRy.out.frozen 0; have f1 := KRy.out.frozen 1; have f2 := KRy.out.frozen 2
          clear hb5 a0 a1
          obtain ⟨w9, hw9⟩ : ∃ w9, ((wy.setCell ⟨w.heap.size + 2, 0, none⟩ (.int .i64 0)).setCell ⟨w.heap.size + 2, 1, none⟩ (.slice none 0 0)).setCell ⟨w.heap.size + 2, 2, none⟩ (.slice none 0 0) = w9 := ⟨_, rfl⟩
          have KZ := Lib.hid (show Blk w9 (w.heap.size + 2) 30 #[.int .i64 0, .slice none 0 0, .slice none 0 0] by rw [← hw9]; exact (((KRy.out.set_ 0 _).set_ 1 _).set_ 2 _))
          have BZ := Lib.hid (show Below w.heap.size w w9 by rw [← hw9]; exact ((Ey.out.setCell (by simp) _).setCell (by simp) _).setCell (by simp) _)
          have y0 : w9.cell? ⟨w.heap.size + 2, 0, none⟩ = some (.int .i64 0) := KZ.out.cell 0
          have y1 : w9.cell? ⟨w.heap.size + 2, 1, none⟩ = some (.slice none 0 0) := KZ.out.cell 1
          have y2 : w9.cell? ⟨w.heap.size + 2, 2, none⟩ = some (.slice none 0 0) := KZ.out.cell 2
          go_wp2_with fail
          refine bodyPost_ret (v := .tuple #[.agg #[.int .i64 0, .slice none 0 0, .slice none 0 0], .int .i64 0, .bool false, .int .i64 5]) (by simp [results, Try.results44, go_sem, y0, y1, y2]) rfl ?_
          rw [← HR5.out]
          exact RbOut.bad BZ.out
        · obtain ⟨AL, ll, cL, AM, lm, cM, rfl, hWS, hbd, hll, hlm, hb5⟩ := hsh
          have E5 := Lib.hid (below_chain E4.out E4.out.size hb5)
          have KR5 := Lib.hid (KR4.out.keep hb5)
          have hz5 : w.heap.size + 2 < w5.heap.size := KR5.out.lt
          have hz4 : w.heap.size + 2 < w4.heap.size := KR4.out.lt
          have HLL := Lib.hid hll; have HLM := Lib.hid hlm; have WS := Lib.hid hWS
          obtain ⟨w6, hw6⟩ : ∃ w6, w5.alloc (.cells #[.int .i64 q2, .slice AL ll cL, .slice AM lm cM] 30) = w6 := ⟨_, rfl⟩
          have E56 := Lib.hid (show Below w5.heap.size w5 w6 by rw [← hw6]; exact below_size.alloc (Nat.le_refl _) _)
          have KV := Lib.hid (show Blk w6 w5.heap.size 30 #[.int .i64 q2, .slice AL ll cL, .slice AM lm cM] by rw [← hw6]; exact Blk.new _ _ _)
          obtain ⟨bb, hbb⟩ : ∃ bb, (decide (ll ≤ 200) && decide (lm ≤ 200)) = bb := ⟨_, rfl⟩
          have HBB := Lib.hid hbb
          have HR5 := Lib.hid (show (if bb = true then (((q2, L, M), (k : Int), b, 0) : RbT) else (zeroK, 0, false, 5)) = RR by rw [← HR4.out, rbC, roomyB, ← hll, ← hlm, hbb])
          have x0 : w6.cell? ⟨w5.heap.size, 0, none⟩ = some (.int .i64 q2) := KV.out.cell 0
          have x1 : w6.cell? ⟨w5.heap.size, 1, none⟩ = some (.slice AL ll cL) := KV.out.cell 1
          have x2 : w6.cell? ⟨w5.heap.size, 2, none⟩ = some (.slice AM lm cM) := KV.out.cell 2
          clear hb5 a0 a1 hll hlm hWS hbb
          go_wp2_with fail
          refine (roomy_c q2 AL ll cL AM lm cM bb w6 (by omega) (by omega) HBB.out).mono ?_
          rintro e' w7 ⟨rfl, hb7⟩
          have E57 := Lib.hid (below_chain E56.out E56.out.size hb7)
          have E7 := Lib.hid (below_chain E5.out E5.out.size E57.out)
          have KR7 := Lib.hid (KR5.out.keep E57.out); have KV7 := Lib.hid (KV.out.keep hb7)
          have WS7 := Lib.hid (WS.out.below E57.out)
          have HZ7 := Lib.hid E57.out.size
          have v0 : w7.cell? ⟨w5.heap.size, 0, none⟩ = some (.int .i64 q2) := KV7.out.cell 0
          have v1 : w7.cell? ⟨w5.heap.size, 1, none⟩ = some (.slice AL ll cL) := KV7.out.cell 1
          have v2 : w7.cell? ⟨w5.heap.size, 2, none⟩ = some (.slice AM lm cM) := KV7.out.cell 2
          have r0 : w7.cell? ⟨w.heap.size + 2, 0, none⟩ = some (.int .i64 0) := KR7.out.cell 0
          have r1 : w7.cell? ⟨w.heap.size + 2, 1, none⟩ = some (.slice none 0 0) := KR7.out.cell 1
          have r2 : w7.cell? ⟨w.heap.size + 2, 2, none⟩ = some (.slice none 0 0) := KR7.out.cell 2
          have f0 := KR7.out.frozen 0; have f1 := KR7.out.frozen 1; have f2 := KR7.out.frozen 2
          clear hb7 x0 x1 x2
          cases bb
          · have HR6 := Lib.hid (show (zeroK, 0, false, 5) = RR from HR5.out)
            obtain ⟨w9, hw9⟩ : ∃ w9, ((w7.setCell ⟨w.heap.size + 2, 0, none⟩ (.int .i64 0)).setCell ⟨w.heap.size + 2, 1, none⟩ (.slice none 0 0)).setCell ⟨w.heap.size + 2, 2, none⟩ (.slice none 0 0) = w9 := ⟨_, rfl⟩
            have KZ := Lib.hid (show Blk w9 (w.heap.size + 2) 30 #[.int .i64 0, .slice none 0 0, .slice none 0 0] by rw [← hw9]; exact (((KR7.out.set_ 0 _).set_ 1 _).set_ 2 _))
            have BZ := Lib.hid (show Below w.heap.size w w9 by rw [← hw9]; exact ((E7.out.setCell (by simp) _).setCell (by simp) _).setCell (by simp) _)
            have y0 : w9.cell? ⟨w.heap.size + 2, 0, none⟩ = some (.int .i64 0) := KZ.out.cell 0
            have y1 : w9.cell? ⟨w.heap.size + 2, 1, none⟩ = some (.slice none 0 0) := KZ.out.cell 1
            have y2 : w9.cell? ⟨w.heap.size + 2, 2, none⟩ = some (.slice none 0 0) := KZ.out.cell 2
            go_wp2_with fail
            refine bodyPost_ret (v := .tuple #[.agg #[.int .i64 0, .slice none 0 0, .slice none 0 0], .int .i64 0, .bool false, .int .i64 5]) (by simp [results, Try.results44, go_sem, y0, y1, y2]) rfl ?_
            rw [← HR6.out]
            exact RbOut.bad BZ.out
          · have HR6 := Lib.hid (show (((q2, L, M), (k : Int), b, 0) : RbT) = RR from HR5.out)
            obtain ⟨w9, hw9⟩ : ∃ w9, ((w7.setCell ⟨w.heap.size + 2, 0, none⟩ (.int .i64 q2)).setCell ⟨w.heap.size + 2, 1, none⟩ (.slice AL ll cL)).setCell ⟨w.heap.size + 2, 2, none⟩ (.slice AM lm cM) = w9 := ⟨_, rfl⟩
            have KZ := Lib.hid (show Blk w9 (w.heap.size + 2) 30 #[.int .i64 q2, .slice AL ll cL, .slice AM lm cM] by rw [← hw9]; exact (((KR7.out.set_ 0 _).set_ 1 _).set_ 2 _))
            have BZ := Lib.hid (show Below w.heap.size w w9 by rw [← hw9]; exact ((E7.out.setCell (by simp) _).setCell (by simp) _).setCell (by simp) _)
            have WS9 := Lib.hid (show WrS w9 w.heap.size w9.heap.size ([sgI AL ll L] ++ [sgI AM lm M]) by
              have hs9 : w9.heap.size = w7.heap.size := by rw [← hw9]; simp
              rw [hs9, ← hw9]
              exact (((WS7.out.set_far (p := ⟨w.heap.size + 2, 0, none⟩) (.inl hz4) _).set_far (p := ⟨w.heap.size + 2, 1, none⟩) (.inl hz4) _).set_far (p := ⟨w.heap.size + 2, 2, none⟩) (.inl hz4) _).wider E4.out.size HZ7.out)
            have y0 : w9.cell? ⟨w.heap.size + 2, 0, none⟩ = some (.int .i64 q2) := KZ.out.cell 0
            have y1 : w9.cell? ⟨w.heap.size + 2, 1, none⟩ = some (.slice AL ll cL) := KZ.out.cell 1
            have y2 : w9.cell? ⟨w.heap.size + 2, 2, none⟩ = some (.slice AM lm cM) := KZ.out.cell 2
            go_wp2_with fail
            refine bodyPost_ret (v := .tuple #[.agg #[.int .i64 q2, .slice AL ll cL, .slice AM lm cM], .int .i64 k, .bool b, .int .i64 0]) (by simp [results, Try.results44, go_sem, y0, y1, y2]) rfl ?_
            rw [← HR6.out]
            exact ⟨AL, ll, cL, AM, lm, cM, rfl, WS9.out, hbd, BZ.out⟩
    · have HR3 := Lib.hid (show (zeroK, 0, false, 5) = RR by rw [← HR2.out, rbW, if_neg (by rw [HWL.out]; exact h4)])
      have r0 : w3.cell? ⟨w.heap.size + 2, 0, none⟩ = some (.int .i64 0) := KR3.out.cell 0
      have r1 : w3.cell? ⟨w.heap.size + 2, 1, none⟩ = some (.slice none 0 0) := KR3.out.cell 1
      have r2 : w3.cell? ⟨w.heap.size + 2, 2, none⟩ = some (.slice none 0 0) := KR3.out.cell 2
      have f0 := KR3.out.frozen 0; have f1 := KR3.out.frozen 1; have f2 := KR3.out.frozen 2
      go_wp2_with fail
      refine (fitting_c AW l cW w3 (by omega)).mono ?_
      rintro e' w' ⟨rfl, rfl⟩
      rw [if_neg h4]
      obtain ⟨w9, hw9⟩ : ∃ w9, ((w3.setCell ⟨w.heap.size + 2, 0, none⟩ (.int .i64 0)).setCell ⟨w.heap.size + 2, 1, none⟩ (.slice none 0 0)).setCell ⟨w.heap.size + 2, 2, none⟩ (.slice none 0 0) = w9 := ⟨_, rfl⟩
      have KZ := Lib.hid (show Blk w9 (w.heap.size + 2) 30 #[.int .i64 0, .slice none 0 0, .slice none 0 0] by rw [← hw9]; exact (((KR3.out.set_ 0 _).set_ 1 _).set_ 2 _))
      have BZ := Lib.hid (show Below w.heap.size w w9 by rw [← hw9]; exact ((E3.out.setCell (by simp) _).setCell (by simp) _).setCell (by simp) _)
      have y0 : w9.cell? ⟨w.heap.size + 2, 0, none⟩ = some (.int .i64 0) := KZ.out.cell 0
      have y1 : w9.cell? ⟨w.heap.size + 2, 1, none⟩ = some (.slice none 0 0) := KZ.out.cell 1
      have y2 : w9.cell? ⟨w.heap.size + 2, 2, none⟩ = some (.slice none 0 0) := KZ.out.cell 2
      go_wp2_with fail
      refine bodyPost_ret (v := .tuple #[.agg #[.int .i64 0, .slice none 0 0, .slice none 0 0], .int .i64 0, .bool false, .int .i64 5]) (by simp [results, Try.results44, go_sem, y0, y1, y2]) rfl ?_
      rw [← HR3.out]
      exact RbOut.bad BZ.out
end Go.Proofs.Ytcbcjhfeidkeaaa
