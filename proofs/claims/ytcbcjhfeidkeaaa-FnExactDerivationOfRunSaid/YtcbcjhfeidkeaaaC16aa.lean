/-
  Contracts of chapter 16: DerivationOfRun of the program.
-/
import Derived.Test.YtcbcjhfeidkeaaaC16z
namespace Go.Proofs.Ytcbcjhfeidkeaaa
open Go.RowKit

/-- some configuration, some number, a code; the steps are noted if the code is 0 -/
def Rb2Out (g B : Nat) (O0 : Option Addr) (R : DvT) (w : World) (e' : Ending) (w' : World) : Prop :=
  ∃ q A n c A' n' c' k b, e' = .returned (.tuple #[.agg #[i64 q, .slice A n c, .slice A' n' c'], i64 k, .bool b, i64 R.2]) ∧ KeepE g O0 w w' ∧ (R.2 = 0 → ∃ O rows D, Noted g B D O rows w' ∧ R.1 = rows.map stepL ∧ rows.length ≤ 1000)
theorem Rb2Out.bad {g B : Nat} {O0 : Option Addr} {w w' : World} (h : KeepE g O0 w w') : Rb2Out g B O0 ([], 5) w (.returned (.tuple #[.agg #[i64 0, .slice none 0 0, .slice none 0 0], i64 0, .bool false, i64 5])) w' :=
  ⟨0, none, 0, 0, none, 0, 0, 0, false, rfl, h, fun h => by simp at h⟩
set_option maxHeartbeats 8000000 in
set_option maxRecDepth 100000 in
theorem runByRewrites2_c (s : Nat) (t e q : Int) (RA : Option Addr) (rn rc : Nat) (rs : List Rule3) (XA : Option Addr) (xn xc : Nat) (xs : List Int) (YA : Option Addr) (yn yc : Nat) (ys : List Int) (X : List Rw) (most g B : Nat) (O0 : Option Addr) (RR : DvT) (w : World) (h : Rd3 w RA rn rs) (hx : RdI w XA xn xs) (hy : RdI w YA yn ys) (hs : 2 ≤ s ∧ s ≤ 6) (he : e = s + t) (ht : 1 ≤ t ∧ t ≤ 1000) (hn : rn ≤ 10000) (hr : ∀ r ∈ rs, r ≠ noneR → 0 ≤ r.2.2 ∧ r.2.2 ≤ 100000) (hX : rwAll s e 0 rs = X) (hg : ∀ r ∈ X, GoodR s e r) (hxn : xn ≤ 200) (hyn : yn ≤ 200) (hq : 0 ≤ q ∧ q < t) (hxl : ∀ x ∈ xs, 0 ≤ x ∧ x < s) (hyl : ∀ x ∈ ys, 0 ≤ x ∧ x < s) (hmost : most ≤ 1000) {D0 : Nat} (hN : Noted g B D0 O0 [] w) (hB : B ≤ w.heap.size) (hR : derX s e q xs ys X most = RR) :
    Calls Try.prog 44 #[.agg #[.int .i64 s, .int .i64 t, .slice RA rn rc], .agg #[.int .i64 q, .slice XA xn xc, .slice YA yn yc], .int .i64 most, .func (.func 48) #[] #[.pointer (some ⟨g, 0, none⟩)]] w (Rb2Out g B O0 RR w) := by
  obtain ⟨w0, hw0⟩ : ∃ w0, ((w.alloc (.cells #[.int .i64 s, .int .i64 t, .slice RA rn rc] 35)).alloc (.cells #[.int .i64 q, .slice XA xn xc, .slice YA yn yc] 30)).alloc (.cells #[.int .i64 0, .slice none 0 0, .slice none 0 0] 30) = w0 := ⟨_, rfl⟩
  have E0 := Lib.hid (show Below w.heap.size w w0 by rw [← hw0]; exact ((below_size.alloc (Nat.le_refl _) _).alloc (by simp) _).alloc (by simp; omega) _)
  have KM := Lib.hid (show Blk w0 w.heap.size 35 #[.int .i64 s, .int .i64 t, .slice RA rn rc] by rw [← hw0]; exact ((Blk.new _ _ _).alloc _).alloc _)
  have KC := Lib.hid (show Blk w0 (w.heap.size + 1) 30 #[.int .i64 q, .slice XA xn xc, .slice YA yn yc] by rw [← hw0]; exact (blk_new2 _ _ _ _ (by simp)).alloc _)
  have KR := Lib.hid (show Blk w0 (w.heap.size + 2) 30 #[.int .i64 0, .slice none 0 0, .slice none 0 0] by rw [← hw0]; exact blk_new2 _ _ _ _ (by simp))
  have H := Lib.hid (Rd.below h E0.out); have HX0 := Lib.hid (RdI.below hx E0.out); have HY0 := Lib.hid (RdI.below hy E0.out)
  have HHR := Lib.hid hr; have HHX := Lib.hid hX; have HG := Lib.hid hg; have HE := Lib.hid he; have HRR := Lib.hid hR; have HXL := Lib.hid hxl; have HYL := Lib.hid hyl
  have HN := Lib.hid (show Noted g B (w.heap.size + 3) O0 [] w from hN.rebase)
  have hgw := hN.glt
  have HOW := Lib.hid hN.olt
  have m0 : w0.cell? ⟨w.heap.size, 0, none⟩ = some (.int .i64 s) := KM.out.cell 0
  have m1 : w0.cell? ⟨w.heap.size, 1, none⟩ = some (.int .i64 t) := KM.out.cell 1
  have m2 : w0.cell? ⟨w.heap.size, 2, none⟩ = some (.slice RA rn rc) := KM.out.cell 2
  have hz0 := E0.out.size
  have hz00 : w.heap.size + 2 < w0.heap.size := KR.out.lt
  clear h hx hy hr hX hg he hR hxl hyl hN
  go_enter Try.func44, Try.ntmps44
  go_wp2_with fail
  refine (machineToRewrites_c s t e RA rn rc rs X w0 H.out hs HE.out ht hn HHR.out HHX.out).mono ?_
  rintro e' w1 hm
  clear hw0 m0 m1 m2
  cases hf : fitsB e X
  · rw [MtOut, if_neg (by rw [hf]; simp)] at hm
    obtain ⟨rfl, hb1⟩ := hm
    have HR2 := Lib.hid (show (([], 5) : DvT) = RR by rw [← HRR.out, derX, if_neg (by rw [hf]; simp)])
    have E1 := Lib.hid (below_chain E0.out E0.out.size hb1)
    have KR1 := Lib.hid (KR.out.keep hb1)
    have hz1 : w.heap.size + 2 < w1.heap.size := KR1.out.lt
    obtain ⟨wx, hwx⟩ : ∃ wx, w1.alloc (.cells #[.int .i64 0, .int .i64 0] 99) = wx := ⟨_, rfl⟩
    have KX := Lib.hid (show Blk wx w1.heap.size 99 #[.int .i64 0, .int .i64 0] by rw [← hwx]; exact Blk.new _ _ _)
    have KRx := Lib.hid (show Blk wx (w.heap.size + 2) 30 #[.int .i64 0, .slice none 0 0, .slice none 0 0] by rw [← hwx]; exact KR1.out.alloc _)
    have Ex := Lib.hid (show Below w.heap.size w wx by rw [← hwx]; exact E1.out.alloc (by omega) _)
    obtain ⟨b, hb⟩ : ∃ b, w1.heap.size = b := ⟨_, rfl⟩
    rw [hb] at KX hz1
    have x0 : wx.cell? ⟨b, 0, none⟩ = some (.int .i64 0) := KX.out.cell 0
    have x1 : wx.cell? ⟨b, 1, none⟩ = some (.int .i64 0) := KX.out.cell 1
    have g0 := KX.out.frozen 0; have g1 := KX.out.frozen 1
    obtain ⟨wy, hwy⟩ : ∃ wy, (wx.setCell ⟨b, 0, none⟩ (.int .i64 0)).setCell ⟨b, 1, none⟩ (.int .i64 0) = wy := ⟨_, rfl⟩
    have KRy := Lib.hid (show Blk wy (w.heap.size + 2) 30 #[.int .i64 0, .slice none 0 0, .slice none 0 0] by rw [← hwy]; exact (KRx.out.far (by simp; omega) _).far (by simp; omega) _)
    have Ey := Lib.hid (show KeepE g O0 w wy from KeepE.of_below (by rw [← hwy]; exact (Ex.out.setCell (by simp; omega) _).setCell (by simp; omega) _))
    have r0 : (wy).cell? ⟨(w.heap.size + 2), 0, none⟩ = some (.int .i64 0) := KRy.out.cell 0
    have r1 : (wy).cell? ⟨(w.heap.size + 2), 1, none⟩ = some (.slice none 0 0) := KRy.out.cell 1
    have r2 : (wy).cell? ⟨(w.heap.size + 2), 2, none⟩ = some (.slice none 0 0) := KRy.out.cell 2
    have f0 := KRy.out.frozen 0; have f1 := KRy.out.frozen 1; have f2 := KRy.out.frozen 2
    clear hb1 hf
    obtain ⟨w9, hw9⟩ : ∃ w9, ((wy.setCell ⟨w.heap.size + 2, 0, none⟩ (.int .i64 0)).setCell ⟨w.heap.size + 2, 1, none⟩ (.slice none 0 0)).setCell ⟨w.heap.size + 2, 2, none⟩ (.slice none 0 0) = w9 := ⟨_, rfl⟩
    have KZ := Lib.hid (show Blk w9 (w.heap.size + 2) 30 #[.int .i64 0, .slice none 0 0, .slice none 0 0] by rw [← hw9]; exact (((KRy.out.set_ 0 _).set_ 1 _).set_ 2 _))
    have BZ := Lib.hid (show KeepE g O0 w w9 by rw [← hw9]; exact ((Ey.out.setCell (by simp) _).setCell (by simp) _).setCell (by simp) _)
    have y0 : w9.cell? ⟨w.heap.size + 2, 0, none⟩ = some (.int .i64 0) := KZ.out.cell 0
    have y1 : w9.cell? ⟨w.heap.size + 2, 1, none⟩ = some (.slice none 0 0) := KZ.out.cell 1
    have y2 : w9.cell? ⟨w.heap.size + 2, 2, none⟩ = some (.slice none 0 0) := KZ.out.cell 2
    go_wp2_with fail
    refine bodyPost_ret (v := .tuple #[.agg #[.int .i64 0, .slice none 0 0, .slice none 0 0], .int .i64 0, .bool false, .int .i64 5]) (by simp [results, Try.results44, go_sem, y0, y1, y2]) rfl ?_
    rw [← HR2.out]
    exact Rb2Out.bad BZ.out
  · rw [MtOut, if_pos hf] at hm
    obtain ⟨P, pc, ts, rfl, hL, hT, hb1⟩ := hm
    have hfx : e ≤ 9 ∧ 1 ≤ X.length ∧ X.length ≤ 60 := by
      simp only [fitsB, Bool.and_eq_true, decide_eq_true_eq] at hf
      exact ⟨hf.1.1, hf.1.2, hf.2⟩
    have hXl : ts.length = X.length := by rw [← hT, List.length_map]
    obtain ⟨m, hm⟩ : ∃ m, ts.length = m := ⟨_, rfl⟩
    have hm60 : m ≤ 60 := by omega
    rw [hm] at hL ⊢
    have E1 := Lib.hid (below_chain E0.out E0.out.size hb1)
    have KR1 := Lib.hid (KR.out.keep hb1); have KC1 := Lib.hid (KC.out.keep hb1)
    have D1 := Lib.hid (show RwN w1 w0.heap.size P m ts from ⟨hL.rwD, fun ad ea => (hL.own.block ea).1, hL.fnew, hL.tnew⟩)
    have HT := Lib.hid hT
    have HX1 := Lib.hid (RdI.below HX0.out hb1); have HY1 := Lib.hid (RdI.below HY0.out hb1)
    have HFX := Lib.hid hfx
    have hz1 : w0.heap.size ≤ w1.heap.size := hb1.size
    obtain ⟨W, hW⟩ : ∃ W, wordW s e q xs ys = W := ⟨_, rfl⟩
    have HR2 := Lib.hid (show derW s e X most W = RR by rw [← HRR.out, derX, if_pos hf, hW])
    have HW := Lib.hid hW
    obtain ⟨w2, hw2⟩ : ∃ w2, w1.alloc (.cells #[.int .i64 s, .int .i64 e] 99) = w2 := ⟨_, rfl⟩
    have E12 := Lib.hid (show Below w1.heap.size w1 w2 by rw [← hw2]; exact below_size.alloc (Nat.le_refl _) _)
    have E2 := Lib.hid (below_chain E1.out E1.out.size E12.out)
    have KA2 := Lib.hid (show Blk w2 w1.heap.size 99 #[.int .i64 s, .int .i64 e] by rw [← hw2]; exact Blk.new _ _ _)
    have KR2 := Lib.hid (KR1.out.keep E12.out); have KC2 := Lib.hid (KC1.out.keep E12.out)
    have a0 : w2.cell? ⟨w1.heap.size, 0, none⟩ = some (.int .i64 s) := KA2.out.cell 0
    have a1 : w2.cell? ⟨w1.heap.size, 1, none⟩ = some (.int .i64 e) := KA2.out.cell 1
    have c0 : w2.cell? ⟨w.heap.size + 1, 0, none⟩ = some (.int .i64 q) := KC2.out.cell 0
    have c1 : w2.cell? ⟨w.heap.size + 1, 1, none⟩ = some (.slice XA xn xc) := KC2.out.cell 1
    have c2 : w2.cell? ⟨w.heap.size + 1, 2, none⟩ = some (.slice YA yn yc) := KC2.out.cell 2
    clear hL hT hb1 hf hfx hXl hm hW KM KC KR KC1 KR1
    go_wp2_with fail
    refine (wordOfConfig_c s e q XA xn xc xs YA yn yc ys W w2 (by exact RdI.below HX1.out E12.out) (by exact RdI.below HY1.out E12.out) (by omega) (by omega) hxn hyn HW.out).mono ?_
    rintro e' w3 ⟨AW, cW, rfl, hRW, hWl, hWc, hb3⟩
    have E3 := Lib.hid (below_chain E2.out E2.out.size hb3)
    have E13 := Lib.hid (below_chain E12.out E12.out.size hb3)
    have KR3 := Lib.hid (KR2.out.keep hb3); have KA3 := Lib.hid (KA2.out.keep hb3)
    have HRW := Lib.hid hRW
    have HN3 := Lib.hid (HN.out.keep E3.out)
    obtain ⟨l, hl⟩ : ∃ l, W.length = l := ⟨_, rfl⟩
    rw [hl] at hWl hWc ⊢
    have HWL := Lib.hid hl
    have hl403 : l ≤ 403 := by omega
    clear hb3 hRW hl hWl a0 a1 c0 c1 c2
    by_cases h4 : l ≤ 400
    · have HR3 := Lib.hid (show derV s e (runL (stB s e) X most W []) = RR by rw [← HR2.out, derW, if_pos (by rw [HWL.out]; exact h4)])
      have a0 : w3.cell? ⟨w1.heap.size, 0, none⟩ = some (.int .i64 s) := KA3.out.cell 0
      have a1 : w3.cell? ⟨w1.heap.size, 1, none⟩ = some (.int .i64 e) := KA3.out.cell 1
      go_wp2_with fail
      refine (fitting_c AW l cW w3 (by omega)).mono ?_
      rintro e' w' ⟨rfl, rfl⟩
      rw [if_pos h4]
      obtain ⟨RV, hRV⟩ : ∃ RV, runL (stB s e) X most W [] = RV := ⟨_, rfl⟩
      have HRV := Lib.hid hRV
      rw [hRV] at HR3
      have hGW := wordW_good (s := s) (e := e) (q := q) (xs := xs) (ys := ys) (by omega) (by have := HE.out; omega) HXL.out HYL.out
      rw [HW.out] at hGW
      have HGW := Lib.hid hGW
      have HLN := Lib.hid (show ∀ t k b, RV = some (t, k, b) → k.length ≤ most from fun t k b h9 => (runL_good HG.out hGW (by rw [HWL.out]; exact h4) (hRV.trans h9)).2.2)
      have hz3 := E3.out.size
      clear hRV hGW
      go_wp2_with fail
      refine (run2_c s e P m pc ts X AW l cW W most g B (w.heap.size + 3) w0.heap.size O0 RV w3 (D1.out.below E13.out) (by omega) (fun o eo => by have := HOW.out o eo; omega) HN3.out (by omega) (by have := E13.out.size; omega) (by omega) HT.out HG.out (by have := HRW.out; rw [HWL.out] at this; exact this) HGW.out.one h4 hWc hm60 hmost HRV.out).mono ?_
      rintro e' w4 hrn
      clear a0 a1
      have hz2 : w.heap.size + 2 < w1.heap.size := by omega
      rcases RV with _ | ⟨T, rows, b⟩
      · obtain ⟨rfl, hK4⟩ := hrn
        have E4 := Lib.hid (KeepE.trans (KeepE.of_below E3.out) hK4 (.inl rfl))
        have KR4 := Lib.hid (KR3.out.keepE hK4 (by omega) (fun ad ea => by have := HOW.out ad ea; omega))
        have HR4 := Lib.hid (show (([], 5) : DvT) = RR from HR3.out)
        have r0 : (w4).cell? ⟨(w.heap.size + 2), 0, none⟩ = some (.int .i64 0) := KR4.out.cell 0
        have r1 : (w4).cell? ⟨(w.heap.size + 2), 1, none⟩ = some (.slice none 0 0) := KR4.out.cell 1
        have r2 : (w4).cell? ⟨(w.heap.size + 2), 2, none⟩ = some (.slice none 0 0) := KR4.out.cell 2
        have f0 := KR4.out.frozen 0; have f1 := KR4.out.frozen 1; have f2 := KR4.out.frozen 2
        clear hK4
        obtain ⟨w9, hw9⟩ : ∃ w9, ((w4.setCell ⟨w.heap.size + 2, 0, none⟩ (.int .i64 0)).setCell ⟨w.heap.size + 2, 1, none⟩ (.slice none 0 0)).setCell ⟨w.heap.size + 2, 2, none⟩ (.slice none 0 0) = w9 := ⟨_, rfl⟩
        have KZ := Lib.hid (show Blk w9 (w.heap.size + 2) 30 #[.int .i64 0, .slice none 0 0, .slice none 0 0] by rw [← hw9]; exact (((KR4.out.set_ 0 _).set_ 1 _).set_ 2 _))
        have BZ := Lib.hid (show KeepE g O0 w w9 by rw [← hw9]; exact ((E4.out.setCell (by simp) _).setCell (by simp) _).setCell (by simp) _)
        have y0 : w9.cell? ⟨w.heap.size + 2, 0, none⟩ = some (.int .i64 0) := KZ.out.cell 0
        have y1 : w9.cell? ⟨w.heap.size + 2, 1, none⟩ = some (.slice none 0 0) := KZ.out.cell 1
        have y2 : w9.cell? ⟨w.heap.size + 2, 2, none⟩ = some (.slice none 0 0) := KZ.out.cell 2
        go_wp2_with fail
        refine bodyPost_ret (v := .tuple #[.agg #[.int .i64 0, .slice none 0 0, .slice none 0 0], .int .i64 0, .bool false, .int .i64 5]) (by simp [results, Try.results44, go_sem, y0, y1, y2]) rfl ?_
        rw [← HR4.out]
        exact Rb2Out.bad BZ.out
      · obtain ⟨AT, tn, tc, O, rfl, hRT, htc, ht4, hN4, hK4⟩ := hrn
        have E4 := Lib.hid (KeepE.trans (KeepE.of_below E3.out) hK4 (.inl rfl))
        have KR4 := Lib.hid (KR3.out.keepE hK4 (by omega) (fun ad ea => by have := HOW.out ad ea; omega))
        have KA4 := Lib.hid (KA3.out.keepE hK4 (by omega) (fun ad ea => by have := HOW.out ad ea; omega))
        have HR4 := Lib.hid (show derC rows (shownW s e T) = RR from HR3.out)
        have HTT := Lib.hid hRT; have HN4 := Lib.hid hN4
        have HLN4 := Lib.hid (HLN.out T rows b rfl)
        obtain ⟨k, hk⟩ : ∃ k, rows.length = k := ⟨_, rfl⟩
        obtain ⟨SV, hSV⟩ : ∃ SV, shownW s e T = SV := ⟨_, rfl⟩
        have HSV := Lib.hid hSV
        rw [hSV] at HR4
        rw [hk]
        have a0 : w4.cell? ⟨w1.heap.size, 0, none⟩ = some (.int .i64 s) := KA4.out.cell 0
        have a1 : w4.cell? ⟨w1.heap.size, 1, none⟩ = some (.int .i64 e) := KA4.out.cell 1
        have hz4 := E4.out.size
        clear hK4 hRT hSV hN4 hk
        go_wp2_with fail
        refine (shown_c s e AT tn tc T SV w4 HTT.out (by omega) (by have := HE.out; have := HFX.out; omega) (by omega) htc HSV.out).mono ?_
        rintro e' w5 hsh
        rcases SV with _ | ⟨q2, L, M⟩
        · obtain ⟨rfl, hb5⟩ := hsh
          have HR5 := Lib.hid (show (([], 5) : DvT) = RR from HR4.out)
          have E5 := Lib.hid (E4.out.below hb5)
          have KR5 := Lib.hid (KR4.out.keep hb5)
          have hz5 : w.heap.size + 2 < w5.heap.size := KR5.out.lt
          obtain ⟨wx, hwx⟩ : ∃ wx, w5.alloc (.cells #[.int .i64 0, .slice none 0 0, .slice none 0 0] 30) = wx := ⟨_, rfl⟩
          have KX := Lib.hid (show Blk wx w5.heap.size 30 #[.int .i64 0, .slice none 0 0, .slice none 0 0] by rw [← hwx]; exact Blk.new _ _ _)
          have KRx := Lib.hid (show Blk wx (w.heap.size + 2) 30 #[.int .i64 0, .slice none 0 0, .slice none 0 0] by rw [← hwx]; exact KR5.out.alloc _)
          have Ex := Lib.hid (show KeepE g O0 w wx by rw [← hwx]; exact E5.out.below (below_size.alloc (Nat.le_refl _) _))
          obtain ⟨d, hd⟩ : ∃ d, w5.heap.size = d := ⟨_, rfl⟩
          rw [hd] at KX hz5
          have x0 : (wx).cell? ⟨d, 0, none⟩ = some (.int .i64 0) := KX.out.cell 0
          have x1 : (wx).cell? ⟨d, 1, none⟩ = some (.slice none 0 0) := KX.out.cell 1
          have x2 : (wx).cell? ⟨d, 2, none⟩ = some (.slice none 0 0) := KX.out.cell 2
          have g0 := KX.out.frozen 0; have g1 := KX.out.frozen 1; have g2 := KX.out.frozen 2
          obtain ⟨wy, hwy⟩ : ∃ wy, ((wx.setCell ⟨d, 0, none⟩ (.int .i64 0)).setCell ⟨d, 1, none⟩ (.slice none 0 0)).setCell ⟨d, 2, none⟩ (.slice none 0 0) = wy := ⟨_, rfl⟩
          have KRy := Lib.hid (show Blk wy (w.heap.size + 2) 30 #[.int .i64 0, .slice none 0 0, .slice none 0 0] by rw [← hwy]; exact ((KRx.out.far (by simp; omega) _).far (by simp; omega) _).far (by simp; omega) _)
          have Ey := Lib.hid (show KeepE g O0 w wy by rw [← hwy]; exact ((Ex.out.setCell (by simp; omega) _).setCell (by simp; omega) _).setCell (by simp; omega) _)
          have r0 : (wy).cell? ⟨(w.heap.size + 2), 0, none⟩ = some (.int .i64 0) := KRy.out.cell 0
          have r1 : (wy).cell? ⟨(w.heap.size + 2), 1, none⟩ = some (.slice none 0 0) := KRy.out.cell 1
          have r2 : (wy).cell? ⟨(w.heap.size + 2), 2, none⟩ = some (.slice none 0 0) := KRy.out.cell 2
          have f0 := KRy.out.frozen 0; have f1 := KRy.out.frozen 1; have f2 := KRy.out.frozen 2
          clear hb5 a0 a1
          obtain ⟨w9, hw9⟩ : ∃ w9, ((wy.setCell ⟨w.heap.size + 2, 0, none⟩ (.int .i64 0)).setCell ⟨w.heap.size + 2, 1, none⟩ (.slice none 0 0)).setCell ⟨w.heap.size + 2, 2, none⟩ (.slice none 0 0) = w9 := ⟨_, rfl⟩
          have KZ := Lib.hid (show Blk w9 (w.heap.size + 2) 30 #[.int .i64 0, .slice none 0 0, .slice none 0 0] by rw [← hw9]; exact (((KRy.out.set_ 0 _).set_ 1 _).set_ 2 _))
          have BZ := Lib.hid (show KeepE g O0 w w9 by rw [← hw9]; exact ((Ey.out.setCell (by simp) _).setCell (by simp) _).setCell (by simp) _)
          have y0 : w9.cell? ⟨w.heap.size + 2, 0, none⟩ = some (.int .i64 0) := KZ.out.cell 0
          have y1 : w9.cell? ⟨w.heap.size + 2, 1, none⟩ = some (.slice none 0 0) := KZ.out.cell 1
          have y2 : w9.cell? ⟨w.heap.size + 2, 2, none⟩ = some (.slice none 0 0) := KZ.out.cell 2
          go_wp2_with fail
          refine bodyPost_ret (v := .tuple #[.agg #[.int .i64 0, .slice none 0 0, .slice none 0 0], .int .i64 0, .bool false, .int .i64 5]) (by simp [results, Try.results44, go_sem, y0, y1, y2]) rfl ?_
          rw [← HR5.out]
          exact Rb2Out.bad BZ.out
        · obtain ⟨AL, ll, cL, AM, lm, cM, rfl, hWS, hbd, hll, hlm, hb5⟩ := hsh
          have E5 := Lib.hid (E4.out.below hb5)
          have KR5 := Lib.hid (KR4.out.keep hb5)
          have HN5 := Lib.hid (HN4.out.keep hb5)
          obtain ⟨w6, hw6⟩ : ∃ w6, w5.alloc (.cells #[.int .i64 q2, .slice AL ll cL, .slice AM lm cM] 30) = w6 := ⟨_, rfl⟩
          have E56 := Lib.hid (show Below w5.heap.size w5 w6 by rw [← hw6]; exact below_size.alloc (Nat.le_refl _) _)
          have KV := Lib.hid (show Blk w6 w5.heap.size 30 #[.int .i64 q2, .slice AL ll cL, .slice AM lm cM] by rw [← hw6]; exact Blk.new _ _ _)
          obtain ⟨bb, hbb⟩ : ∃ bb, (decide (ll ≤ 200) && decide (lm ≤ 200)) = bb := ⟨_, rfl⟩
          have HBB := Lib.hid hbb
          have HR5 := Lib.hid (show (if bb = true then ((rows.map stepL, 0) : DvT) else ([], 5)) = RR by rw [← HR4.out, derC, roomyB, ← hll, ← hlm, hbb])
          have x0 : w6.cell? ⟨w5.heap.size, 0, none⟩ = some (.int .i64 q2) := KV.out.cell 0
          have x1 : w6.cell? ⟨w5.heap.size, 1, none⟩ = some (.slice AL ll cL) := KV.out.cell 1
          have x2 : w6.cell? ⟨w5.heap.size, 2, none⟩ = some (.slice AM lm cM) := KV.out.cell 2
          clear hb5 a0 a1 hll hlm hWS hbb
          go_wp2_with fail
          refine (roomy_c q2 AL ll cL AM lm cM bb w6 (by omega) (by omega) HBB.out).mono ?_
          rintro e' w7 ⟨rfl, hb7⟩
          have E57 := Lib.hid (below_chain E56.out E56.out.size hb7)
          have E7 := Lib.hid (E5.out.below E57.out)
          have KR7 := Lib.hid (KR5.out.keep E57.out); have KV7 := Lib.hid (KV.out.keep hb7)
          have HN7 := Lib.hid (HN5.out.keep E57.out)
          have v0 : w7.cell? ⟨w5.heap.size, 0, none⟩ = some (.int .i64 q2) := KV7.out.cell 0
          have v1 : w7.cell? ⟨w5.heap.size, 1, none⟩ = some (.slice AL ll cL) := KV7.out.cell 1
          have v2 : w7.cell? ⟨w5.heap.size, 2, none⟩ = some (.slice AM lm cM) := KV7.out.cell 2
          have r0 : (w7).cell? ⟨(w.heap.size + 2), 0, none⟩ = some (.int .i64 0) := KR7.out.cell 0
          have r1 : (w7).cell? ⟨(w.heap.size + 2), 1, none⟩ = some (.slice none 0 0) := KR7.out.cell 1
          have r2 : (w7).cell? ⟨(w.heap.size + 2), 2, none⟩ = some (.slice none 0 0) := KR7.out.cell 2
          have f0 := KR7.out.frozen 0; have f1 := KR7.out.frozen 1; have f2 := KR7.out.frozen 2
          clear hb7 x0 x1 x2
          cases bb
          · have HR6 := Lib.hid (show (([], 5) : DvT) = RR from HR5.out)
            obtain ⟨w9, hw9⟩ : ∃ w9, ((w7.setCell ⟨w.heap.size + 2, 0, none⟩ (.int .i64 0)).setCell ⟨w.heap.size + 2, 1, none⟩ (.slice none 0 0)).setCell ⟨w.heap.size + 2, 2, none⟩ (.slice none 0 0) = w9 := ⟨_, rfl⟩
            have KZ := Lib.hid (show Blk w9 (w.heap.size + 2) 30 #[.int .i64 0, .slice none 0 0, .slice none 0 0] by rw [← hw9]; exact (((KR7.out.set_ 0 _).set_ 1 _).set_ 2 _))
            have BZ := Lib.hid (show KeepE g O0 w w9 by rw [← hw9]; exact ((E7.out.setCell (by simp) _).setCell (by simp) _).setCell (by simp) _)
            have y0 : w9.cell? ⟨w.heap.size + 2, 0, none⟩ = some (.int .i64 0) := KZ.out.cell 0
            have y1 : w9.cell? ⟨w.heap.size + 2, 1, none⟩ = some (.slice none 0 0) := KZ.out.cell 1
            have y2 : w9.cell? ⟨w.heap.size + 2, 2, none⟩ = some (.slice none 0 0) := KZ.out.cell 2
            go_wp2_with fail
            refine bodyPost_ret (v := .tuple #[.agg #[.int .i64 0, .slice none 0 0, .slice none 0 0], .int .i64 0, .bool false, .int .i64 5]) (by simp [results, Try.results44, go_sem, y0, y1, y2]) rfl ?_
            rw [← HR6.out]
            exact Rb2Out.bad BZ.out
          · have HR6 := Lib.hid (show ((rows.map stepL, 0) : DvT) = RR from HR5.out)
            obtain ⟨w9, hw9⟩ : ∃ w9, ((w7.setCell ⟨w.heap.size + 2, 0, none⟩ (.int .i64 q2)).setCell ⟨w.heap.size + 2, 1, none⟩ (.slice AL ll cL)).setCell ⟨w.heap.size + 2, 2, none⟩ (.slice AM lm cM) = w9 := ⟨_, rfl⟩
            have KZ := Lib.hid (show Blk w9 (w.heap.size + 2) 30 #[.int .i64 q2, .slice AL ll cL, .slice AM lm cM] by rw [← hw9]; exact (((KR7.out.set_ 0 _).set_ 1 _).set_ 2 _))
            have BZ := Lib.hid (show KeepE g O0 w w9 by rw [← hw9]; exact ((E7.out.setCell (by simp) _).setCell (by simp) _).setCell (by simp) _)
            have NZ := Lib.hid (show Noted g B (w.heap.size + 3) O rows w9 by
              rw [← hw9]
              exact ((HN7.out.far KR7.out (by decide) (by omega) (by omega) 0 _).far (KR7.out.set_ 0 _) (by decide) (by omega) (by omega) 1 _).far ((KR7.out.set_ 0 _).set_ 1 _) (by decide) (by omega) (by omega) 2 _)
            have y0 : w9.cell? ⟨w.heap.size + 2, 0, none⟩ = some (.int .i64 q2) := KZ.out.cell 0
            have y1 : w9.cell? ⟨w.heap.size + 2, 1, none⟩ = some (.slice AL ll cL) := KZ.out.cell 1
            have y2 : w9.cell? ⟨w.heap.size + 2, 2, none⟩ = some (.slice AM lm cM) := KZ.out.cell 2
            go_wp2_with fail
            refine bodyPost_ret (v := .tuple #[.agg #[.int .i64 q2, .slice AL ll cL, .slice AM lm cM], .int .i64 k, .bool b, .int .i64 0]) (by simp [results, Try.results44, go_sem, y0, y1, y2]) rfl ?_
            rw [← HR6.out]
            exact ⟨q2, AL, ll, cL, AM, lm, cM, k, b, rfl, BZ.out, fun _ => ⟨O, rows, _, NZ.out, rfl, by have := HLN4.out; omega⟩⟩
    · have HR3 := Lib.hid (show (([], 5) : DvT) = RR by rw [← HR2.out, derW, if_neg (by rw [HWL.out]; exact h4)])
      have r0 : (w3).cell? ⟨(w.heap.size + 2), 0, none⟩ = some (.int .i64 0) := KR3.out.cell 0
      have r1 : (w3).cell? ⟨(w.heap.size + 2), 1, none⟩ = some (.slice none 0 0) := KR3.out.cell 1
      have r2 : (w3).cell? ⟨(w.heap.size + 2), 2, none⟩ = some (.slice none 0 0) := KR3.out.cell 2
      have f0 := KR3.out.frozen 0; have f1 := KR3.out.frozen 1; have f2 := KR3.out.frozen 2
      have EE3 := Lib.hid (show KeepE g O0 w w3 from KeepE.of_below E3.out)
      go_wp2_with fail
      refine (fitting_c AW l cW w3 (by omega)).mono ?_
      rintro e' w' ⟨rfl, rfl⟩
      rw [if_neg h4]
      obtain ⟨w9, hw9⟩ : ∃ w9, ((w3.setCell ⟨w.heap.size + 2, 0, none⟩ (.int .i64 0)).setCell ⟨w.heap.size + 2, 1, none⟩ (.slice none 0 0)).setCell ⟨w.heap.size + 2, 2, none⟩ (.slice none 0 0) = w9 := ⟨_, rfl⟩
      have KZ := Lib.hid (show Blk w9 (w.heap.size + 2) 30 #[.int .i64 0, .slice none 0 0, .slice none 0 0] by rw [← hw9]; exact (((KR3.out.set_ 0 _).set_ 1 _).set_ 2 _))
      have BZ := Lib.hid (show KeepE g O0 w w9 by rw [← hw9]; exact ((EE3.out.setCell (by simp) _).setCell (by simp) _).setCell (by simp) _)
      have y0 : w9.cell? ⟨w.heap.size + 2, 0, none⟩ = some (.int .i64 0) := KZ.out.cell 0
      have y1 : w9.cell? ⟨w.heap.size + 2, 1, none⟩ = some (.slice none 0 0) := KZ.out.cell 1
      have y2 : w9.cell? ⟨w.heap.size + 2, 2, none⟩ = some (.slice none 0 0) := KZ.out.cell 2
      go_wp2_with fail
      refine bodyPost_ret (v := .tuple #[.agg #[.int .i64 0, .slice none 0 0, .slice none 0 0], .int .i64 0, .bool false, .int .i64 5]) (by simp [results, Try.results44, go_sem, y0, y1, y2]) rfl ?_
      rw [← HR3.out]
      exact Rb2Out.bad BZ.out

theorem derX_or (s e q : Int) (xs ys : List Int) (X : List Rw) (most : Nat) : derX s e q xs ys X most = ([], 5) ∨ (derX s e q xs ys X most).2 = 0 := by
  unfold derX
  split
  · unfold derW
    split
    · cases runL (stB s e) X most (wordW s e q xs ys) [] with
      | none => exact .inl rfl
      | some r =>
        simp only [derV]
        cases shownW s e r.1 with
        | none => exact .inl rfl
        | some c =>
          simp only [derC]
          split
          · exact .inr rfl
          · exact .inl rfl
    · exact .inl rfl
  · exact .inl rfl
set_option maxHeartbeats 8000000 in
set_option maxRecDepth 100000 in
theorem iDerivationOfRun0_c (sy st : Int) (RA : Option Addr) (rn rc : Nat) (rs : List Rule3) (q : Int) (XA : Option Addr) (xn xc : Nat) (xs : List Int) (YA : Option Addr) (yn yc : Nat) (ys : List Int) (bu : Int) (RR : DvT) (w : World) (h : Rd3 w RA rn rs) (hx : RdI w XA xn xs) (hy : RdI w YA yn ys) (hn : rn ≤ 1000000000) (hxn : xn ≤ 1000000000) (hyn : yn ≤ 1000000000) (hR : derR sy st rs q xs ys bu = RR) :
    Calls Try.prog 20 #[.agg #[.int .i64 sy, .int .i64 st, .slice RA rn rc], .agg #[.int .i64 q, .slice XA xn xc, .slice YA yn yc], .int .i64 bu] w (DvOut RR w) := by
  obtain ⟨w0, hw0⟩ : ∃ w0, (w.alloc (.cells #[.int .i64 sy, .int .i64 st, .slice RA rn rc] 35)).alloc (.cells #[.int .i64 q, .slice XA xn xc, .slice YA yn yc] 30) = w0 := ⟨_, rfl⟩
  have E0 := Lib.hid (show Below w.heap.size w w0 by rw [← hw0]; exact (below_size.alloc (Nat.le_refl _) _).alloc (by simp) _)
  have KM := Lib.hid (show Blk w0 w.heap.size 35 #[.int .i64 sy, .int .i64 st, .slice RA rn rc] by rw [← hw0]; exact (Blk.new _ _ _).alloc _)
  have KC := Lib.hid (show Blk w0 (w.heap.size + 1) 30 #[.int .i64 q, .slice XA xn xc, .slice YA yn yc] by rw [← hw0]; exact blk_new2 _ _ _ _ (by simp))
  have H := Lib.hid (Rd.below h E0.out); have HX := Lib.hid (RdI.below hx E0.out); have HY := Lib.hid (RdI.below hy E0.out)
  have hrl := Rd3.len h; have hxl := hx.len; have hyl := hy.len
  obtain ⟨v, hv⟩ : ∃ v, (machB sy st rs && confB sy st q xs ys) = v := ⟨_, rfl⟩
  obtain ⟨b, hb⟩ : ∃ b, inB bu 0 100 = b := ⟨_, rfl⟩
  have HV := Lib.hid hv; have HB := Lib.hid hb
  have HR := Lib.hid (show (if v = true then if b = true then derX sy (sy + st) q xs ys (rwAll sy.toNat (sy + st) 0 rs) bu.toNat else ([], 2) else ([], 1)) = RR by rw [← hR, derR, hv, hb])
  have m0 : w0.cell? ⟨w.heap.size, 0, none⟩ = some (.int .i64 sy) := KM.out.cell 0
  have m1 : w0.cell? ⟨w.heap.size, 1, none⟩ = some (.int .i64 st) := KM.out.cell 1
  have m2 : w0.cell? ⟨w.heap.size, 2, none⟩ = some (.slice RA rn rc) := KM.out.cell 2
  have c0 : w0.cell? ⟨w.heap.size + 1, 0, none⟩ = some (.int .i64 q) := KC.out.cell 0
  have c1 : w0.cell? ⟨w.heap.size + 1, 1, none⟩ = some (.slice XA xn xc) := KC.out.cell 1
  have c2 : w0.cell? ⟨w.heap.size + 1, 2, none⟩ = some (.slice YA yn yc) := KC.out.cell 2
  have HL := Lib.hid hrl; have HXL := Lib.hid hxl; have HYL := Lib.hid hyl
  clear h hx hy hR hv hb hrl hxl hyl
  go_enter Try.func20, Try.ntmps20
  go_wp2_with fail
  refine (validConfigW_c sy st RA rn rc rs q XA xn xc xs YA yn yc ys v w0 H.out HX.out HY.out hn hxn hyn HV.out).mono ?_
  rintro e' w1 ⟨rfl, hb1⟩
  have E1 := Lib.hid (below_chain E0.out E0.out.size hb1)
  have KM1 := Lib.hid (KM.out.keep hb1); have KC1 := Lib.hid (KC.out.keep hb1)
  have H1 := Lib.hid (Rd.below H.out hb1); have HX1 := Lib.hid (RdI.below HX.out hb1); have HY1 := Lib.hid (RdI.below HY.out hb1)
  clear hw0 hb1 m0 m1 m2 c0 c1 c2
  cases v
  · have HR2 := Lib.hid (show (([], 1) : DvT) = RR from HR.out)
    go_wp2_with fail
    go_ret2
    rw [← HR2.out]
    exact DvOut.bad 1 E1.out
  go_wp2_with fail
  refine (within_b bu 0 100 b HB.out w1).mono ?_
  rintro e' w' ⟨rfl, rfl⟩
  cases b
  · have HR2 := Lib.hid (show (([], 2) : DvT) = RR from HR.out)
    go_wp2_with fail
    go_ret2
    rw [← HR2.out]
    exact DvOut.bad 2 E1.out
  have hv2 := HV.out
  rw [Bool.and_eq_true] at hv2
  obtain ⟨a1, a2, a3, a4, a5, a6, a7, a8, a9, a10⟩ := rwOk hv2.1 hv2.2
  have a11 := inB_t HB.out
  have HR2 := Lib.hid (show derX sy (sy + st) q xs ys (rwAll sy.toNat (sy + st) 0 rs) bu.toNat = RR from HR.out)
  clear HV HB HR hv2
  obtain ⟨s, rfl⟩ := Int.eq_ofNat_of_zero_le (show 0 ≤ sy by omega)
  obtain ⟨B, rfl⟩ := Int.eq_ofNat_of_zero_le (show 0 ≤ bu by omega)
  rw [Int.toNat_natCast] at a10
  have HR3 := Lib.hid (show derX s ((s : Int) + st) q xs ys (rwAll s ((s : Int) + st) 0 rs) B = RR by have := HR2.out; rw [Int.toNat_natCast, Int.toNat_natCast] at this; exact this)
  have HOR := Lib.hid (show RR = ([], 5) ∨ RR.2 = 0 by rw [← HR3.out]; exact derX_or _ _ _ _ _ _ _)
  have A6 := Lib.hid a6; have A7 := Lib.hid a7; have A9 := Lib.hid a9; have A10 := Lib.hid a10
  have b4 : xn ≤ 200 := by have := HXL.out; omega
  have b5 : yn ≤ 200 := by have := HYL.out; omega
  have b8 : rn ≤ 10000 := by have := HL.out; omega
  have b1 : 2 ≤ s ∧ s ≤ 6 := by omega
  have b9 : B ≤ 1000 := by omega
  obtain ⟨w2, hw2⟩ : ∃ w2, w1.alloc (.cells #[] 25) = w2 := ⟨_, rfl⟩
  have E12 := Lib.hid (show Below w1.heap.size w1 w2 by rw [← hw2]; exact below_size.alloc (Nat.le_refl _) _)
  have O2 := Lib.hid (show Own w2 w1.heap.size 25 1 (some ⟨w1.heap.size, 0, none⟩) 0 0 [] by rw [← hw2]; exact Own.litK (Nat.le_refl _))
  obtain ⟨w3, hw3⟩ : ∃ w3, w2.alloc (.cells #[.slice (some ⟨w1.heap.size, 0, none⟩) 0 0] 43) = w3 := ⟨_, rfl⟩
  have E23 := Lib.hid (show Below w2.heap.size w2 w3 by rw [← hw3]; exact below_size.alloc (Nat.le_refl _) _)
  have E13 := Lib.hid (below_chain E12.out E12.out.size E23.out)
  have E3 := Lib.hid (below_chain E1.out E1.out.size E13.out)
  have N3 := Lib.hid (show Noted w2.heap.size w1.heap.size (w2.heap.size + 1) (some ⟨w1.heap.size, 0, none⟩) [] w3 from
    ⟨0, [], by rw [← hw3]; exact Blk.new _ _ _, OwnS.nil (O2.out.keep E23.out), rfl, (by simp), (by simp)⟩)
  have KM3 := Lib.hid (KM1.out.keep E13.out); have KC3 := Lib.hid (KC1.out.keep E13.out)
  have m0 : w3.cell? ⟨w.heap.size, 0, none⟩ = some (.int .i64 s) := KM3.out.cell 0
  have m1 : w3.cell? ⟨w.heap.size, 1, none⟩ = some (.int .i64 st) := KM3.out.cell 1
  have m2 : w3.cell? ⟨w.heap.size, 2, none⟩ = some (.slice RA rn rc) := KM3.out.cell 2
  have c0 : w3.cell? ⟨w.heap.size + 1, 0, none⟩ = some (.int .i64 q) := KC3.out.cell 0
  have c1 : w3.cell? ⟨w.heap.size + 1, 1, none⟩ = some (.slice XA xn xc) := KC3.out.cell 1
  have c2 : w3.cell? ⟨w.heap.size + 1, 2, none⟩ = some (.slice YA yn yc) := KC3.out.cell 2
  have hz1 := E1.out.size; have hz2 := E12.out.size; have hz3 := E23.out.size
  clear a4 a5 a6 a7 a8 a9 a10 HR2 KM KC H HX HY
  go_wp2_with fail
  refine (runByRewrites2_c s st ((s : Int) + st) q RA rn rc rs XA xn xc xs YA yn yc ys (rwAll s ((s : Int) + st) 0 rs) B w2.heap.size w1.heap.size (some ⟨w1.heap.size, 0, none⟩) RR w3 (Rd.below H1.out E13.out) (RdI.below HX1.out E13.out) (RdI.below HY1.out E13.out) b1 rfl a2 b8 A9.out rfl A10.out b4 b5 a3 A6.out A7.out b9 N3.out (by omega) HR3.out).mono ?_
  rintro e' w4 ⟨q', A, n, c, A', n', c', k, bb, rfl, hK4, hcd⟩
  have B34 := Lib.hid (hK4.toBelow (B := w1.heap.size) (by omega) hz2 (fun ad ea => by injection ea with ea; subst ea; exact Nat.le_refl _))
  have E4 := Lib.hid (E3.out.trans (B34.out.mono hz1))
  have HCD := Lib.hid hcd
  obtain ⟨R, cd⟩ := RR
  clear hK4 hcd m0 m1 m2 c0 c1 c2 hw2 hw3
  obtain ⟨w5, hw5⟩ : ∃ w5, w4.alloc (.cells #[.int .i64 q', .slice A n c, .slice A' n' c'] 30) = w5 := ⟨_, rfl⟩
  have E45 := Lib.hid (show Below w4.heap.size w4 w5 by rw [← hw5]; exact below_size.alloc (Nat.le_refl _) _)
  have E5 := Lib.hid (below_chain E4.out E4.out.size E45.out)
  by_cases h0 : cd = 0
  · subst h0
    obtain ⟨O, rows, D, hN, hRe, hrl⟩ := HCD.out rfl
    obtain ⟨oc, its, hC, hO, hIX, hI2, _⟩ := hN.oc
    have C5 := Lib.hid (hC.keep E45.out)
    have O5 := Lib.hid (hO.keep E45.out)
    have y0 : w5.cell? ⟨w2.heap.size, 0, none⟩ = some (.slice O rows.length oc) := C5.out.cell 0
    have HIX := Lib.hid hIX; have HI2 := Lib.hid hI2; have HRE := Lib.hid hRe
    obtain ⟨j, hj⟩ : ∃ j, rows.length = j := ⟨_, rfl⟩
    rw [hj] at y0 O5 hrl
    have HJ := Lib.hid hj
    clear hN hC hO hIX hI2 hRe hj
    go_wp2_with fail
    go_ret2
    have hil : its.length = j := by have := congrArg List.length HIX.out; rw [List.length_map, List.length_map, HJ.out] at this; exact this
    exact ⟨O, j, oc, its, rfl, O5.out.wrII.wider hz1 (Nat.le_refl _), ⟨by omega, (fun t ht => by rw [HI2.out t ht]; omega), by rw [sumN_two HI2.out, hil]; omega, HIX.out.trans HRE.out.symm⟩, E5.out⟩
  · have g0 : (cd != 0) = true := by simp [h0]
    have HRE := Lib.hid (show R = [] by
      rcases HOR.out with h9 | h9
      · injection h9
      · exact absurd h9 h0)
    clear h0
    go_wp2_with fail
    go_ret2
    rw [HRE.out]
    exact DvOut.bad cd E5.out
theorem sDerivationOfRun_c (sy st : Int) (A : Option Addr) (n c : Nat) (rs : List Rule3) (q : Int) (XA : Option Addr) (xn xc : Nat) (xs : List Int) (YA : Option Addr) (yn yc : Nat) (ys : List Int) (bu : Int) (w : World) (h : RdS w [sgX enc3 3 A n rs]) (h' : RdS w ([sgI XA xn xs] ++ [sgI YA yn ys])) (hn : n ≤ 1000000000) (hn' : xn ≤ 1000000000) (hna : yn ≤ 1000000000) {RR : DvT} (hRR : derR sy st rs q xs ys bu = RR) :
    Calls Try.prog 19 #[.agg #[.int .i64 sy, .int .i64 st, .slice A n c], .agg #[.int .i64 q, .slice XA xn xc, .slice YA yn yc], .int .i64 bu] w (DvOut RR w) :=
  sDerivationOfRun0_c sy st A n c rs q XA xn xc xs YA yn yc ys bu RR w h.head h'.left.head h'.right.head hn hn' hna hRR
theorem iDerivationOfRun_c (sy st : Int) (A : Option Addr) (n c : Nat) (rs : List Rule3) (q : Int) (XA : Option Addr) (xn xc : Nat) (xs : List Int) (YA : Option Addr) (yn yc : Nat) (ys : List Int) (bu : Int) (w : World) (h : RdS w [sgX enc3 3 A n rs]) (h' : RdS w ([sgI XA xn xs] ++ [sgI YA yn ys])) (hn : n ≤ 1000000000) (hn' : xn ≤ 1000000000) (hna : yn ≤ 1000000000) {RR : DvT} (hRR : derR sy st rs q xs ys bu = RR) :
    Calls Try.prog 20 #[.agg #[.int .i64 sy, .int .i64 st, .slice A n c], .agg #[.int .i64 q, .slice XA xn xc, .slice YA yn yc], .int .i64 bu] w (DvOut RR w) :=
  iDerivationOfRun0_c sy st A n c rs q XA xn xc xs YA yn yc ys bu RR w h.head h'.left.head h'.right.head hn hn' hna hRR
end Go.Proofs.Ytcbcjhfeidkeaaa
