/-
  Contracts of chapter 16: RunByMarkov of the reference.
-/
import Derived.Test.YtcbcjhfeidkeaaaC16v
import Derived.Test.YtcbcjhfeidkeaaaC16n
namespace Go.Proofs.Ytcbcjhfeidkeaaa
open Go.RowKit

theorem l05BudgetM_b (b : Int) (q : Bool) (hq : inB b 1 20000 = q) (w : World) : Calls Try.prog 28 #[.int .i64 b] w fun e w' => e = .returned (.bool q) ∧ w = w' := by
  subst hq
  go_enter Try.func28, Try.ntmps28
  go_wp2_with (go_at_call 46; refine (l00In_c _ _ _ _).mono ?_; rintro e w' ⟨rfl, rfl⟩)
  go_ret
  exact ⟨rfl, rfl⟩
/-- what the reference answers behind a run -/
def rbC2 (s t : Int) (k : Nat) (b : Bool) : Option (Int × List Int × List Int) → RbT
  | none => (zeroK, 0, false, 5)
  | some c => if confB s t c.1 c.2.1 c.2.2 = true then (c, (k : Int), b, 0) else (zeroK, 0, false, 5)
theorem rbC2_eq {s t e : Int} {w : List Int} (k : Nat) (b : Bool) (hs : 1 ≤ s) (he : e = s + t) (hw : ∀ x ∈ w, 0 ≤ x ∧ x ≤ e) : rbC2 s t k b (cfgS s e w) = rbC k b (shownW s e w) := by
  have h1 : ∀ o, rbC2 s t k b o = (match o with | none => (zeroK, 0, false, 5) | some c => if confB s t c.1 c.2.1 c.2.2 = true then ((c, (k : Int), b, 0) : RbT) else (zeroK, 0, false, 5)) := fun o => by cases o <;> rfl
  have h2 : ∀ o, rbC k b o = (match o with | none => (zeroK, 0, false, 5) | some c => if roomyB c = true then ((c, (k : Int), b, 0) : RbT) else (zeroK, 0, false, 5)) := fun o => by cases o <;> rfl
  rw [h1, h2]
  exact cfgS_shown _ (fun c => ((c, (k : Int), b, 0) : RbT)) hs he hw
theorem rwOk2 {sy st : Int} {rs : List Rule3} (h1 : machB sy st rs = true) : (∀ x ∈ rwAll sy.toNat (sy + st) 0 rs, LastB (stB sy (sy + st)) x) ∧ (rwAll sy.toNat (sy + st) 0 rs).Pairwise Dif := by
  simp only [machB, Bool.and_eq_true, beq_iff_eq, List.all_eq_true] at h1
  obtain ⟨⟨⟨a1, a2⟩, a3⟩, a4⟩ := h1
  have a1 := inB_t a1; have a2 := inB_t a2
  obtain ⟨s, rfl⟩ := Int.eq_ofNat_of_zero_le (show 0 ≤ sy by omega)
  obtain ⟨m, rfl⟩ := Int.eq_ofNat_of_zero_le (show 0 ≤ st by omega)
  rw [Int.toNat_natCast]
  refine ⟨rwAll_last (m := m) (by omega) rfl a4 (by
      have : ((rs.length : Nat) : Int) = ((s * m : Nat) : Int) := by rw [a3, Int.natCast_mul]
      omega), rwAll_dif (by omega) (by omega)⟩
set_option maxHeartbeats 8000000 in
set_option maxRecDepth 100000 in
theorem sRunByMarkov0_c (sy st : Int) (RA : Option Addr) (rn rc : Nat) (rs : List Rule3) (q : Int) (XA : Option Addr) (xn xc : Nat) (xs : List Int) (YA : Option Addr) (yn yc : Nat) (ys : List Int) (bu : Int) (RR : RbT) (w : World) (h : Rd3 w RA rn rs) (hx : RdI w XA xn xs) (hy : RdI w YA yn ys) (hn : rn ≤ 1000000000) (hxn : xn ≤ 1000000000) (hyn : yn ≤ 1000000000) (hR : rbwR sy st rs q xs ys bu = RR) :
    Calls Try.prog 8 #[.agg #[.int .i64 sy, .int .i64 st, .slice RA rn rc], .agg #[.int .i64 q, .slice XA xn xc, .slice YA yn yc], .int .i64 bu] w (RbOut RR w) := by
  obtain ⟨w0, hw0⟩ : ∃ w0, ((w.alloc (.cells #[.int .i64 sy, .int .i64 st, .slice RA rn rc] 35)).alloc (.cells #[.int .i64 q, .slice XA xn xc, .slice YA yn yc] 30)).alloc (.cells #[.int .i64 0, .slice none 0 0, .slice none 0 0] 30) = w0 := ⟨_, rfl⟩
  have E0 := Lib.hid (show Below w.heap.size w w0 by rw [← hw0]; exact ((below_size.alloc (Nat.le_refl _) _).alloc (by simp) _).alloc (by simp; omega) _)
  have KM := Lib.hid (show Blk w0 w.heap.size 35 #[.int .i64 sy, .int .i64 st, .slice RA rn rc] by rw [← hw0]; exact ((Blk.new _ _ _).alloc _).alloc _)
  have KC := Lib.hid (show Blk w0 (w.heap.size + 1) 30 #[.int .i64 q, .slice XA xn xc, .slice YA yn yc] by rw [← hw0]; exact (blk_new2 _ _ _ _ (by simp)).alloc _)
  have KR := Lib.hid (show Blk w0 (w.heap.size + 2) 30 #[.int .i64 0, .slice none 0 0, .slice none 0 0] by rw [← hw0]; exact blk_new2 _ _ _ _ (by simp))
  have HMP := Lib.hid (show MachP w0 w.heap.size sy st RA rn rc rs from ⟨KM.out.cell 0, KM.out.cell 1, KM.out.cell 2, Rd.below h E0.out⟩)
  have HCP := Lib.hid (show ConfP w0 (w.heap.size + 1) q XA xn xc xs YA yn yc ys from ⟨KC.out.cell 0, KC.out.cell 1, KC.out.cell 2, RdI.below hx E0.out, RdI.below hy E0.out⟩)
  have hrl := Rd3.len h; have hxl := hx.len; have hyl := hy.len
  obtain ⟨v1, h1⟩ : ∃ v1, machB sy st rs = v1 := ⟨_, rfl⟩
  obtain ⟨v2, h2⟩ : ∃ v2, confB sy st q xs ys = v2 := ⟨_, rfl⟩
  obtain ⟨b, hb⟩ : ∃ b, inB bu 1 20000 = b := ⟨_, rfl⟩
  have H1 := Lib.hid h1; have H2 := Lib.hid h2; have HB := Lib.hid hb
  have HR := Lib.hid (show (if (v1 && v2) = true then if b = true then rbR sy (sy + st) q xs ys (rwAll sy.toNat (sy + st) 0 rs) bu.toNat else (zeroK, 0, false, 2) else (zeroK, 0, false, 1)) = RR by rw [← hR, rbwR, h1, h2, hb])
  have HL := Lib.hid hrl; have HXL := Lib.hid hxl; have HYL := Lib.hid hyl
  clear h hx hy hR h1 h2 hb hrl hxl hyl
  go_enter Try.func8, Try.ntmps8
  go_wp2_with fail
  refine (l05Is_c w.heap.size sy st RA rn rc rs v1 w0 HMP.out hn H1.out).mono ?_
  rintro e' w1 ⟨rfl, hb1⟩
  have E1 := Lib.hid (below_chain E0.out E0.out.size hb1)
  have KR1 := Lib.hid (KR.out.keep hb1); have HMP1 := Lib.hid (HMP.out.below hb1); have HCP1 := Lib.hid (HCP.out.below hb1)
  clear hw0 hb1 KM KC KR HMP HCP E0
  cases v1
  · have HR2 := Lib.hid (show (zeroK, 0, false, 1) = RR from HR.out)
    have r0 : (w1).cell? ⟨(w.heap.size + 2), 0, none⟩ = some (.int .i64 0) := KR1.out.cell 0
    have r1 : (w1).cell? ⟨(w.heap.size + 2), 1, none⟩ = some (.slice none 0 0) := KR1.out.cell 1
    have r2 : (w1).cell? ⟨(w.heap.size + 2), 2, none⟩ = some (.slice none 0 0) := KR1.out.cell 2
    have f0 := KR1.out.frozen 0; have f1 := KR1.out.frozen 1; have f2 := KR1.out.frozen 2
    obtain ⟨w9, hw9⟩ : ∃ w9, ((w1.setCell ⟨w.heap.size + 2, 0, none⟩ (.int .i64 0)).setCell ⟨w.heap.size + 2, 1, none⟩ (.slice none 0 0)).setCell ⟨w.heap.size + 2, 2, none⟩ (.slice none 0 0) = w9 := ⟨_, rfl⟩
    have KZ := Lib.hid (show Blk w9 (w.heap.size + 2) 30 #[.int .i64 0, .slice none 0 0, .slice none 0 0] by rw [← hw9]; exact (((KR1.out.set_ 0 _).set_ 1 _).set_ 2 _))
    have BZ := Lib.hid (show Below w.heap.size w w9 by rw [← hw9]; exact ((E1.out.setCell (by simp) _).setCell (by simp) _).setCell (by simp) _)
    have y0 : w9.cell? ⟨w.heap.size + 2, 0, none⟩ = some (.int .i64 0) := KZ.out.cell 0
    have y1 : w9.cell? ⟨w.heap.size + 2, 1, none⟩ = some (.slice none 0 0) := KZ.out.cell 1
    have y2 : w9.cell? ⟨w.heap.size + 2, 2, none⟩ = some (.slice none 0 0) := KZ.out.cell 2
    go_wp2_with fail
    refine bodyPost_ret (v := .tuple #[.agg #[.int .i64 0, .slice none 0 0, .slice none 0 0], .int .i64 0, .bool false, .int .i64 1]) (by simp [results, Try.results8, go_sem, y0, y1, y2]) rfl ?_
    rw [← HR2.out]
    exact RbOut.badK 1 BZ.out
  have h1p := H1.out
  simp only [machB, Bool.and_eq_true, beq_iff_eq] at h1p
  obtain ⟨⟨⟨hsy, hst⟩, _⟩, _⟩ := h1p
  have hsy := inB_t hsy; have hst := inB_t hst
  go_wp2_with fail
  refine (l05Good_c w.heap.size sy st RA rn rc rs (w.heap.size + 1) q XA xn xc xs YA yn yc ys v2 w1 HMP1.out HCP1.out hsy hst hxn hyn H2.out).mono ?_
  rintro e' w2 ⟨rfl, hq2⟩
  have hb2 := hq2.below w1.heap.size
  have E2 := Lib.hid (below_chain E1.out E1.out.size hb2)
  have KR2 := Lib.hid (KR1.out.keep hb2); have HMP2 := Lib.hid (HMP1.out.below hb2); have HCP2 := Lib.hid (HCP1.out.below hb2)
  clear hq2 hb2 E1 KR1 HMP1 HCP1
  cases v2
  · have HR2 := Lib.hid (show (zeroK, 0, false, 1) = RR from HR.out)
    have r0 : (w2).cell? ⟨(w.heap.size + 2), 0, none⟩ = some (.int .i64 0) := KR2.out.cell 0
    have r1 : (w2).cell? ⟨(w.heap.size + 2), 1, none⟩ = some (.slice none 0 0) := KR2.out.cell 1
    have r2 : (w2).cell? ⟨(w.heap.size + 2), 2, none⟩ = some (.slice none 0 0) := KR2.out.cell 2
    have f0 := KR2.out.frozen 0; have f1 := KR2.out.frozen 1; have f2 := KR2.out.frozen 2
    obtain ⟨w9, hw9⟩ : ∃ w9, ((w2.setCell ⟨w.heap.size + 2, 0, none⟩ (.int .i64 0)).setCell ⟨w.heap.size + 2, 1, none⟩ (.slice none 0 0)).setCell ⟨w.heap.size + 2, 2, none⟩ (.slice none 0 0) = w9 := ⟨_, rfl⟩
    have KZ := Lib.hid (show Blk w9 (w.heap.size + 2) 30 #[.int .i64 0, .slice none 0 0, .slice none 0 0] by rw [← hw9]; exact (((KR2.out.set_ 0 _).set_ 1 _).set_ 2 _))
    have BZ := Lib.hid (show Below w.heap.size w w9 by rw [← hw9]; exact ((E2.out.setCell (by simp) _).setCell (by simp) _).setCell (by simp) _)
    have y0 : w9.cell? ⟨w.heap.size + 2, 0, none⟩ = some (.int .i64 0) := KZ.out.cell 0
    have y1 : w9.cell? ⟨w.heap.size + 2, 1, none⟩ = some (.slice none 0 0) := KZ.out.cell 1
    have y2 : w9.cell? ⟨w.heap.size + 2, 2, none⟩ = some (.slice none 0 0) := KZ.out.cell 2
    go_wp2_with fail
    refine bodyPost_ret (v := .tuple #[.agg #[.int .i64 0, .slice none 0 0, .slice none 0 0], .int .i64 0, .bool false, .int .i64 1]) (by simp [results, Try.results8, go_sem, y0, y1, y2]) rfl ?_
    rw [← HR2.out]
    exact RbOut.badK 1 BZ.out
  go_wp2_with fail
  refine (l05BudgetM_b bu b HB.out w2).mono ?_
  rintro e' w' ⟨rfl, rfl⟩
  cases b
  · have HR2 := Lib.hid (show (zeroK, 0, false, 2) = RR from HR.out)
    have r0 : (w2).cell? ⟨(w.heap.size + 2), 0, none⟩ = some (.int .i64 0) := KR2.out.cell 0
    have r1 : (w2).cell? ⟨(w.heap.size + 2), 1, none⟩ = some (.slice none 0 0) := KR2.out.cell 1
    have r2 : (w2).cell? ⟨(w.heap.size + 2), 2, none⟩ = some (.slice none 0 0) := KR2.out.cell 2
    have f0 := KR2.out.frozen 0; have f1 := KR2.out.frozen 1; have f2 := KR2.out.frozen 2
    obtain ⟨w9, hw9⟩ : ∃ w9, ((w2.setCell ⟨w.heap.size + 2, 0, none⟩ (.int .i64 0)).setCell ⟨w.heap.size + 2, 1, none⟩ (.slice none 0 0)).setCell ⟨w.heap.size + 2, 2, none⟩ (.slice none 0 0) = w9 := ⟨_, rfl⟩
    have KZ := Lib.hid (show Blk w9 (w.heap.size + 2) 30 #[.int .i64 0, .slice none 0 0, .slice none 0 0] by rw [← hw9]; exact (((KR2.out.set_ 0 _).set_ 1 _).set_ 2 _))
    have BZ := Lib.hid (show Below w.heap.size w w9 by rw [← hw9]; exact ((E2.out.setCell (by simp) _).setCell (by simp) _).setCell (by simp) _)
    have y0 : w9.cell? ⟨w.heap.size + 2, 0, none⟩ = some (.int .i64 0) := KZ.out.cell 0
    have y1 : w9.cell? ⟨w.heap.size + 2, 1, none⟩ = some (.slice none 0 0) := KZ.out.cell 1
    have y2 : w9.cell? ⟨w.heap.size + 2, 2, none⟩ = some (.slice none 0 0) := KZ.out.cell 2
    go_wp2_with fail
    refine bodyPost_ret (v := .tuple #[.agg #[.int .i64 0, .slice none 0 0, .slice none 0 0], .int .i64 0, .bool false, .int .i64 2]) (by simp [results, Try.results8, go_sem, y0, y1, y2]) rfl ?_
    rw [← HR2.out]
    exact RbOut.badK 2 BZ.out
  obtain ⟨a1, a2, a3, a4, a5, a6, a7, a8, a9, a10⟩ := rwOk H1.out H2.out
  have a11 := inB_t HB.out
  have HR2 := Lib.hid (show rbR sy (sy + st) q xs ys (rwAll sy.toNat (sy + st) 0 rs) bu.toNat = RR from HR.out)
  clear HB HR H2 hsy hst
  obtain ⟨s, rfl⟩ := Int.eq_ofNat_of_zero_le (show 0 ≤ sy by omega)
  obtain ⟨B, rfl⟩ := Int.eq_ofNat_of_zero_le (show 0 ≤ bu by omega)
  obtain ⟨e, he⟩ : ∃ e, (s : Int) + st = e := ⟨_, rfl⟩
  rw [Int.toNat_natCast] at a10
  rw [he] at a10
  obtain ⟨X, hX⟩ : ∃ X, rwAll s e 0 rs = X := ⟨_, rfl⟩
  rw [hX] at a10
  obtain ⟨W, hW⟩ : ∃ W, wordW s e q xs ys = W := ⟨_, rfl⟩
  have HR3 := Lib.hid (show rbR s e q xs ys X B = RR by have := HR2.out; rw [Int.toNat_natCast, Int.toNat_natCast, he, hX] at this; exact this)
  have A9 := Lib.hid a9; have A10 := Lib.hid a10
  have HXX := Lib.hid hX; have HWW := Lib.hid hW; have HE := Lib.hid he.symm
  have b4 : xn ≤ 200 := by have := HXL.out; omega
  have b5 : yn ≤ 200 := by have := HYL.out; omega
  have b8 : rn ≤ 10000 := by have := HL.out; omega
  have b1 : 2 ≤ s ∧ s ≤ 6 := by omega
  have b9 : B ≤ 100000 := by omega
  have b6 : 0 ≤ q ∧ q ≤ 1000 := by omega
  have HGW := Lib.hid (show GoodW s e W by rw [← hW]; exact wordW_good (by omega) (by omega) a6 a7)
  clear a4 a5 a6 a7 a8 a9 a10 HR2 hX hW he HXL HYL HL
  go_wp2_with fail
  refine (l16Rules_c w.heap.size s st e RA rn rc rs X w2 HMP2.out b1 HE.out a2 b8 A9.out HXX.out).mono ?_
  rintro e' w3 ⟨P, m, pc, ts, rfl, hL, hT, hb3⟩
  have hXl : m = X.length := by rw [← hT, List.length_map]; exact hL.len.symm
  obtain ⟨fb, hfb⟩ : ∃ fb, (decide (0 < X.length) && decide (X.length ≤ 60) && decide (e ≤ 9)) = fb := ⟨_, rfl⟩
  have HFB := Lib.hid (show fitsB e X = fb by
    rw [← hfb, fitsB]
    by_cases q1 : e ≤ 9 <;> by_cases q2 : 0 < X.length <;> by_cases q3 : X.length ≤ 60 <;> simp [q1, q2, q3, Nat.succ_le_iff])
  rw [hfb]
  have E3 := Lib.hid (below_chain E2.out E2.out.size hb3)
  have KR3 := Lib.hid (KR2.out.keep hb3); have HMP3 := Lib.hid (HMP2.out.below hb3); have HCP3 := Lib.hid (HCP2.out.below hb3)
  have D3 := Lib.hid hL.rwD; have HT := Lib.hid hT; have HXLN := Lib.hid hXl
  clear hL hT hb3 hXl hfb E2 KR2 HMP2 HCP2
  go_wp2_with fail
  refine (l16Word_c w.heap.size s st e RA rn rc rs (w.heap.size + 1) q XA xn xc xs YA yn yc ys W w3 HMP3.out HCP3.out b1 HE.out a2 b6 b4 b5 HWW.out).mono ?_
  rintro e' w4 ⟨AW, cW, rfl, hRW, hWl, hWc, hb4⟩
  obtain ⟨l, hl⟩ : ∃ l, W.length = l := ⟨_, rfl⟩
  rw [hl] at hRW hWc hWl ⊢
  have HWL := Lib.hid hl
  have HRW := Lib.hid (show RdI w4 AW l W from hRW.rdI)
  have E4 := Lib.hid (below_chain E3.out E3.out.size hb4)
  have KR4 := Lib.hid (KR3.out.keep hb4); have HMP4 := Lib.hid (HMP3.out.below hb4)
  have D4 := Lib.hid (D3.out.below hb4)
  have hl403 : l ≤ 403 := by omega
  clear hRW hWl hb4 hl E3 KR3 HMP3 HCP3 D3
  cases fb
  · have HR4 := Lib.hid (show (zeroK, 0, false, 5) = RR by rw [← HR3.out, rbR, if_neg (by rw [HFB.out]; simp)])
    have r0 : (w4).cell? ⟨(w.heap.size + 2), 0, none⟩ = some (.int .i64 0) := KR4.out.cell 0
    have r1 : (w4).cell? ⟨(w.heap.size + 2), 1, none⟩ = some (.slice none 0 0) := KR4.out.cell 1
    have r2 : (w4).cell? ⟨(w.heap.size + 2), 2, none⟩ = some (.slice none 0 0) := KR4.out.cell 2
    have f0 := KR4.out.frozen 0; have f1 := KR4.out.frozen 1; have f2 := KR4.out.frozen 2
    obtain ⟨w9, hw9⟩ : ∃ w9, ((w4.setCell ⟨w.heap.size + 2, 0, none⟩ (.int .i64 0)).setCell ⟨w.heap.size + 2, 1, none⟩ (.slice none 0 0)).setCell ⟨w.heap.size + 2, 2, none⟩ (.slice none 0 0) = w9 := ⟨_, rfl⟩
    have KZ := Lib.hid (show Blk w9 (w.heap.size + 2) 30 #[.int .i64 0, .slice none 0 0, .slice none 0 0] by rw [← hw9]; exact (((KR4.out.set_ 0 _).set_ 1 _).set_ 2 _))
    have BZ := Lib.hid (show Below w.heap.size w w9 by rw [← hw9]; exact ((E4.out.setCell (by simp) _).setCell (by simp) _).setCell (by simp) _)
    have y0 : w9.cell? ⟨w.heap.size + 2, 0, none⟩ = some (.int .i64 0) := KZ.out.cell 0
    have y1 : w9.cell? ⟨w.heap.size + 2, 1, none⟩ = some (.slice none 0 0) := KZ.out.cell 1
    have y2 : w9.cell? ⟨w.heap.size + 2, 2, none⟩ = some (.slice none 0 0) := KZ.out.cell 2
    go_wp2_with fail
    refine bodyPost_ret (v := .tuple #[.agg #[.int .i64 0, .slice none 0 0, .slice none 0 0], .int .i64 0, .bool false, .int .i64 5]) (by simp [results, Try.results8, go_sem, y0, y1, y2]) rfl ?_
    rw [← HR4.out]
    exact RbOut.badK 5 BZ.out
  have HFX := Lib.hid (show e ≤ 9 ∧ 1 ≤ X.length ∧ X.length ≤ 60 by
    have hf := HFB.out
    simp only [fitsB, Bool.and_eq_true, decide_eq_true_eq] at hf
    exact ⟨hf.1.1, hf.1.2, hf.2⟩)
  have hm60 : m ≤ 60 := by have h1 := HFX.out; have h2 := HXLN.out; omega
  have HR4 := Lib.hid (show rbW s e X B W = RR by rw [← HR3.out, rbR, if_pos HFB.out, HWW.out])
  by_cases h4 : l ≤ 400
  · have g4 : decide ((400 : Int) < (l : Int)) = false := by rw [decide_eq_false_iff_not]; omega
    obtain ⟨RV, hRV⟩ : ∃ RV, runW (stB s e) X B W 0 = RV := ⟨_, rfl⟩
    have HRV := Lib.hid hRV
    have HR5 := Lib.hid (show rbV s e RV = RR by rw [← HR4.out, rbW, if_pos (by rw [HWL.out]; exact h4), hRV])
    have HTG := Lib.hid (show ∀ t k b, RV = some (t, k, b) → (∀ x ∈ t, 0 ≤ x ∧ x ≤ e) ∧ t.length ≤ 400 from fun t k b h9 => by
      have := runW_good A10.out HGW.out (by rw [HWL.out]; exact h4) (hRV.trans h9)
      exact ⟨this.1.ltr, this.2.1⟩)
    clear hRV
    go_wp2_with fail
    refine (l16Markov_c P m pc ts w4 D4.out hm60).mono ?_
    rintro e' w5 ⟨P5, pc5, rfl, hD5, hb5⟩
    have D5 := Lib.hid hD5
    have E5 := Lib.hid (below_chain E4.out E4.out.size hb5)
    have KR5 := Lib.hid (KR4.out.keep hb5); have HMP5 := Lib.hid (HMP4.out.below hb5)
    have HRW5 := Lib.hid (RdI.below HRW.out hb5)
    clear hD5 hb5 E4 KR4 HMP4 HRW D4
    go_wp2_with fail
    refine (l10Run_c s e P5 m pc5 ts X AW l cW W B RV w5 D5.out HT.out A10.out HRW5.out HGW.out.one h4 hm60 b9 HRV.out).mono ?_
    intro e' w6 hrn
    rcases RV with _ | ⟨T, k, b⟩
    · obtain ⟨rfl, hb6⟩ := hrn
      have E6 := Lib.hid (below_chain E5.out E5.out.size hb6)
      have KR6 := Lib.hid (KR5.out.keep hb6)
      have HR6 := Lib.hid (show (zeroK, 0, false, 5) = RR from HR5.out)
      clear hb6
      have r0 : (w6).cell? ⟨(w.heap.size + 2), 0, none⟩ = some (.int .i64 0) := KR6.out.cell 0
      have r1 : (w6).cell? ⟨(w.heap.size + 2), 1, none⟩ = some (.slice none 0 0) := KR6.out.cell 1
      have r2 : (w6).cell? ⟨(w.heap.size + 2), 2, none⟩ = some (.slice none 0 0) := KR6.out.cell 2
      have f0 := KR6.out.frozen 0; have f1 := KR6.out.frozen 1; have f2 := KR6.out.frozen 2
      obtain ⟨w9, hw9⟩ : ∃ w9, ((w6.setCell ⟨w.heap.size + 2, 0, none⟩ (.int .i64 0)).setCell ⟨w.heap.size + 2, 1, none⟩ (.slice none 0 0)).setCell ⟨w.heap.size + 2, 2, none⟩ (.slice none 0 0) = w9 := ⟨_, rfl⟩
      have KZ := Lib.hid (show Blk w9 (w.heap.size + 2) 30 #[.int .i64 0, .slice none 0 0, .slice none 0 0] by rw [← hw9]; exact (((KR6.out.set_ 0 _).set_ 1 _).set_ 2 _))
      have BZ := Lib.hid (show Below w.heap.size w w9 by rw [← hw9]; exact ((E6.out.setCell (by simp) _).setCell (by simp) _).setCell (by simp) _)
      have y0 : w9.cell? ⟨w.heap.size + 2, 0, none⟩ = some (.int .i64 0) := KZ.out.cell 0
      have y1 : w9.cell? ⟨w.heap.size + 2, 1, none⟩ = some (.slice none 0 0) := KZ.out.cell 1
      have y2 : w9.cell? ⟨w.heap.size + 2, 2, none⟩ = some (.slice none 0 0) := KZ.out.cell 2
      go_wp2_with fail
      refine bodyPost_ret (v := .tuple #[.agg #[.int .i64 0, .slice none 0 0, .slice none 0 0], .int .i64 0, .bool false, .int .i64 5]) (by simp [results, Try.results8, go_sem, y0, y1, y2]) rfl ?_
      rw [← HR6.out]
      exact RbOut.badK 5 BZ.out
    · obtain ⟨A6, n6, c6, rfl, hR6, hnc6, hn6, hb6⟩ := hrn
      have E6 := Lib.hid (below_chain E5.out E5.out.size hb6)
      have KR6 := Lib.hid (KR5.out.keep hb6); have HMP6 := Lib.hid (HMP5.out.below hb6)
      have HT6 := Lib.hid hR6
      have hTG := HTG.out T k b rfl
      have HTL := Lib.hid hTG.1
      obtain ⟨CV, hCV⟩ : ∃ CV, cfgS s e T = CV := ⟨_, rfl⟩
      have HCV := Lib.hid hCV
      have HR6 := Lib.hid (show rbC2 s st k b CV = RR by rw [← hCV, rbC2_eq k b (by omega) HE.out hTG.1]; exact HR5.out)
      clear hR6 hb6 hTG hCV E5 KR5 HMP5
      go_wp2_with fail
      refine (l16Config_c w.heap.size s st e RA rn rc rs A6 n6 c6 T CV w6 HMP6.out HT6.out (by omega) a2 HE.out (by omega) hnc6 (fun x hx => by have := HTL.out x hx; have := HFX.out; omega) HCV.out).mono ?_
      intro e' w7 hcf
      rcases CV with _ | ⟨q2, L, M⟩
      · skip
        obtain ⟨rfl, hb7⟩ := hcf
        have HR7 := Lib.hid (show (zeroK, 0, false, 5) = RR from HR6.out)
        have E7 := Lib.hid (below_chain E6.out E6.out.size hb7)
        have KR7 := Lib.hid (KR6.out.keep hb7)
        have hz7 : w.heap.size + 2 < w7.heap.size := KR7.out.lt
        obtain ⟨wx, hwx⟩ : ∃ wx, w7.alloc (.cells #[.int .i64 0, .slice none 0 0, .slice none 0 0] 30) = wx := ⟨_, rfl⟩
        have KX := Lib.hid (show Blk wx w7.heap.size 30 #[.int .i64 0, .slice none 0 0, .slice none 0 0] by rw [← hwx]; exact Blk.new _ _ _)
        have KRx := Lib.hid (show Blk wx (w.heap.size + 2) 30 #[.int .i64 0, .slice none 0 0, .slice none 0 0] by rw [← hwx]; exact KR7.out.alloc _)
        have Ex := Lib.hid (show Below w.heap.size w wx by rw [← hwx]; exact E7.out.alloc (by omega) _)
        obtain ⟨d, hd⟩ : ∃ d, w7.heap.size = d := ⟨_, rfl⟩
        rw [hd] at KX hz7
        have x0 : (wx).cell? ⟨d, 0, none⟩ = some (.int .i64 0) := KX.out.cell 0
        have x1 : (wx).cell? ⟨d, 1, none⟩ = some (.slice none 0 0) := KX.out.cell 1
        have x2 : (wx).cell? ⟨d, 2, none⟩ = some (.slice none 0 0) := KX.out.cell 2
        have g0 := KX.out.frozen 0; have g1 := KX.out.frozen 1; have g2 := KX.out.frozen 2
        obtain ⟨wy, hwy⟩ : ∃ wy, ((wx.setCell ⟨d, 0, none⟩ (.int .i64 0)).setCell ⟨d, 1, none⟩ (.slice none 0 0)).setCell ⟨d, 2, none⟩ (.slice none 0 0) = wy := ⟨_, rfl⟩
        have KRy := Lib.hid (show Blk wy (w.heap.size + 2) 30 #[.int .i64 0, .slice none 0 0, .slice none 0 0] by rw [← hwy]; exact ((KRx.out.far (by simp; omega) _).far (by simp; omega) _).far (by simp; omega) _)
        have Ey := Lib.hid (show Below w.heap.size w wy by rw [← hwy]; exact ((Ex.out.setCell (by simp; omega) _).setCell (by simp; omega) _).setCell (by simp; omega) _)
        have r0 : (wy).cell? ⟨(w.heap.size + 2), 0, none⟩ = some (.int .i64 0) := KRy.out.cell 0
        have r1 : (wy).cell? ⟨(w.heap.size + 2), 1, none⟩ = some (.slice none 0 0) := KRy.out.cell 1
        have r2 : (wy).cell? ⟨(w.heap.size + 2), 2, none⟩ = some (.slice none 0 0) := KRy.out.cell 2
        have f0 := KRy.out.frozen 0; have f1 := KRy.out.frozen 1; have f2 := KRy.out.frozen 2
        clear hb7
        obtain ⟨w9, hw9⟩ : ∃ w9, ((wy.setCell ⟨w.heap.size + 2, 0, none⟩ (.int .i64 0)).setCell ⟨w.heap.size + 2, 1, none⟩ (.slice none 0 0)).setCell ⟨w.heap.size + 2, 2, none⟩ (.slice none 0 0) = w9 := ⟨_, rfl⟩
        have KZ := Lib.hid (show Blk w9 (w.heap.size + 2) 30 #[.int .i64 0, .slice none 0 0, .slice none 0 0] by rw [← hw9]; exact (((KRy.out.set_ 0 _).set_ 1 _).set_ 2 _))
        have BZ := Lib.hid (show Below w.heap.size w w9 by rw [← hw9]; exact ((Ey.out.setCell (by simp) _).setCell (by simp) _).setCell (by simp) _)
        have y0 : w9.cell? ⟨w.heap.size + 2, 0, none⟩ = some (.int .i64 0) := KZ.out.cell 0
        have y1 : w9.cell? ⟨w.heap.size + 2, 1, none⟩ = some (.slice none 0 0) := KZ.out.cell 1
        have y2 : w9.cell? ⟨w.heap.size + 2, 2, none⟩ = some (.slice none 0 0) := KZ.out.cell 2
        go_wp2_with fail
        refine bodyPost_ret (v := .tuple #[.agg #[.int .i64 0, .slice none 0 0, .slice none 0 0], .int .i64 0, .bool false, .int .i64 5]) (by simp [results, Try.results8, go_sem, y0, y1, y2]) rfl ?_
        rw [← HR7.out]
        exact RbOut.badK 5 BZ.out
      · obtain ⟨AL, cL, AM, cM, rfl, hWS, hbd, hb7⟩ := hcf
        obtain ⟨ll, hll⟩ : ∃ ll, L.length = ll := ⟨_, rfl⟩
        obtain ⟨lm, hlm⟩ : ∃ lm, M.length = lm := ⟨_, rfl⟩
        obtain ⟨bb, hbb⟩ : ∃ bb, confB s st q2 L M = bb := ⟨_, rfl⟩
        rw [hll, hlm] at hWS hbd ⊢
        rw [hbb]
        have HR7 := Lib.hid (show (if bb = true then (((q2, L, M), ((k : Nat) : Int), b, 0) : RbT) else (zeroK, 0, false, 5)) = RR by rw [← HR6.out, rbC2, hbb])
        have E7 := Lib.hid (below_chain E6.out E6.out.size hb7)
        have KR7 := Lib.hid (KR6.out.keep hb7)
        have hz6 : w.heap.size + 2 < w6.heap.size := KR6.out.lt
        have WS := Lib.hid hWS
        obtain ⟨w8, hw8⟩ : ∃ w8, w7.alloc (.cells #[.int .i64 q2, .slice AL ll cL, .slice AM lm cM] 30) = w8 := ⟨_, rfl⟩
        have E78 := Lib.hid (show Below w7.heap.size w7 w8 by rw [← hw8]; exact below_size.alloc (Nat.le_refl _) _)
        have E8 := Lib.hid (below_chain E7.out E7.out.size E78.out)
        have KV := Lib.hid (show Blk w8 w7.heap.size 30 #[.int .i64 q2, .slice AL ll cL, .slice AM lm cM] by rw [← hw8]; exact Blk.new _ _ _)
        have KR8 := Lib.hid (KR7.out.keep E78.out)
        have WS8 := Lib.hid (WS.out.below E78.out)
        have HZ8 := Lib.hid E78.out.size
        have v0 : w8.cell? ⟨w7.heap.size, 0, none⟩ = some (.int .i64 q2) := KV.out.cell 0
        have v1 : w8.cell? ⟨w7.heap.size, 1, none⟩ = some (.slice AL ll cL) := KV.out.cell 1
        have v2 : w8.cell? ⟨w7.heap.size, 2, none⟩ = some (.slice AM lm cM) := KV.out.cell 2
        have r0 : (w8).cell? ⟨(w.heap.size + 2), 0, none⟩ = some (.int .i64 0) := KR8.out.cell 0
        have r1 : (w8).cell? ⟨(w.heap.size + 2), 1, none⟩ = some (.slice none 0 0) := KR8.out.cell 1
        have r2 : (w8).cell? ⟨(w.heap.size + 2), 2, none⟩ = some (.slice none 0 0) := KR8.out.cell 2
        have f0 := KR8.out.frozen 0; have f1 := KR8.out.frozen 1; have f2 := KR8.out.frozen 2
        clear hb7 hll hlm hbb hWS
        cases bb
        · have HR8 := Lib.hid (show (zeroK, 0, false, 5) = RR from HR7.out)
          obtain ⟨w9, hw9⟩ : ∃ w9, ((w8.setCell ⟨w.heap.size + 2, 0, none⟩ (.int .i64 0)).setCell ⟨w.heap.size + 2, 1, none⟩ (.slice none 0 0)).setCell ⟨w.heap.size + 2, 2, none⟩ (.slice none 0 0) = w9 := ⟨_, rfl⟩
          have KZ := Lib.hid (show Blk w9 (w.heap.size + 2) 30 #[.int .i64 0, .slice none 0 0, .slice none 0 0] by rw [← hw9]; exact (((KR8.out.set_ 0 _).set_ 1 _).set_ 2 _))
          have BZ := Lib.hid (show Below w.heap.size w w9 by rw [← hw9]; exact ((E8.out.setCell (by simp) _).setCell (by simp) _).setCell (by simp) _)
          have y0 : w9.cell? ⟨w.heap.size + 2, 0, none⟩ = some (.int .i64 0) := KZ.out.cell 0
          have y1 : w9.cell? ⟨w.heap.size + 2, 1, none⟩ = some (.slice none 0 0) := KZ.out.cell 1
          have y2 : w9.cell? ⟨w.heap.size + 2, 2, none⟩ = some (.slice none 0 0) := KZ.out.cell 2
          go_wp2_with fail
          refine bodyPost_ret (v := .tuple #[.agg #[.int .i64 0, .slice none 0 0, .slice none 0 0], .int .i64 0, .bool false, .int .i64 5]) (by simp [results, Try.results8, go_sem, y0, y1, y2]) rfl ?_
          rw [← HR8.out]
          exact RbOut.badK 5 BZ.out
        · have HR8 := Lib.hid (show (((q2, L, M), ((k : Nat) : Int), b, 0) : RbT) = RR from HR7.out)
          obtain ⟨w9, hw9⟩ : ∃ w9, ((w8.setCell ⟨w.heap.size + 2, 0, none⟩ (.int .i64 q2)).setCell ⟨w.heap.size + 2, 1, none⟩ (.slice AL ll cL)).setCell ⟨w.heap.size + 2, 2, none⟩ (.slice AM lm cM) = w9 := ⟨_, rfl⟩
          have KZ := Lib.hid (show Blk w9 (w.heap.size + 2) 30 #[.int .i64 q2, .slice AL ll cL, .slice AM lm cM] by rw [← hw9]; exact (((KR8.out.set_ 0 _).set_ 1 _).set_ 2 _))
          have BZ := Lib.hid (show Below w.heap.size w w9 by rw [← hw9]; exact ((E8.out.setCell (by simp) _).setCell (by simp) _).setCell (by simp) _)
          have WS9 := Lib.hid (show WrS w9 w.heap.size w9.heap.size ([sgI AL ll L] ++ [sgI AM lm M]) by
            have hs9 : w9.heap.size = w8.heap.size := by rw [← hw9]; simp
            rw [hs9, ← hw9]
            exact (((WS8.out.set_far (p := ⟨w.heap.size + 2, 0, none⟩) (.inl hz6) _).set_far (p := ⟨w.heap.size + 2, 1, none⟩) (.inl hz6) _).set_far (p := ⟨w.heap.size + 2, 2, none⟩) (.inl hz6) _).wider E6.out.size HZ8.out)
          have y0 : w9.cell? ⟨w.heap.size + 2, 0, none⟩ = some (.int .i64 q2) := KZ.out.cell 0
          have y1 : w9.cell? ⟨w.heap.size + 2, 1, none⟩ = some (.slice AL ll cL) := KZ.out.cell 1
          have y2 : w9.cell? ⟨w.heap.size + 2, 2, none⟩ = some (.slice AM lm cM) := KZ.out.cell 2
          go_wp2_with fail
          refine bodyPost_ret (v := .tuple #[.agg #[.int .i64 q2, .slice AL ll cL, .slice AM lm cM], .int .i64 ((k : Nat) : Int), .bool b, .int .i64 0]) (by simp [results, Try.results8, go_sem, y0, y1, y2]) rfl ?_
          rw [← HR8.out]
          exact ⟨AL, ll, cL, AM, lm, cM, rfl, WS9.out, hbd, BZ.out⟩
  · have g4 : decide ((400 : Int) < (l : Int)) = true := by rw [decide_eq_true_eq]; omega
    have HR5 := Lib.hid (show (zeroK, 0, false, 5) = RR by rw [← HR4.out, rbW, if_neg (by rw [HWL.out]; exact h4)])
    have r0 : (w4).cell? ⟨(w.heap.size + 2), 0, none⟩ = some (.int .i64 0) := KR4.out.cell 0
    have r1 : (w4).cell? ⟨(w.heap.size + 2), 1, none⟩ = some (.slice none 0 0) := KR4.out.cell 1
    have r2 : (w4).cell? ⟨(w.heap.size + 2), 2, none⟩ = some (.slice none 0 0) := KR4.out.cell 2
    have f0 := KR4.out.frozen 0; have f1 := KR4.out.frozen 1; have f2 := KR4.out.frozen 2
    obtain ⟨w9, hw9⟩ : ∃ w9, ((w4.setCell ⟨w.heap.size + 2, 0, none⟩ (.int .i64 0)).setCell ⟨w.heap.size + 2, 1, none⟩ (.slice none 0 0)).setCell ⟨w.heap.size + 2, 2, none⟩ (.slice none 0 0) = w9 := ⟨_, rfl⟩
    have KZ := Lib.hid (show Blk w9 (w.heap.size + 2) 30 #[.int .i64 0, .slice none 0 0, .slice none 0 0] by rw [← hw9]; exact (((KR4.out.set_ 0 _).set_ 1 _).set_ 2 _))
    have BZ := Lib.hid (show Below w.heap.size w w9 by rw [← hw9]; exact ((E4.out.setCell (by simp) _).setCell (by simp) _).setCell (by simp) _)
    have y0 : w9.cell? ⟨w.heap.size + 2, 0, none⟩ = some (.int .i64 0) := KZ.out.cell 0
    have y1 : w9.cell? ⟨w.heap.size + 2, 1, none⟩ = some (.slice none 0 0) := KZ.out.cell 1
    have y2 : w9.cell? ⟨w.heap.size + 2, 2, none⟩ = some (.slice none 0 0) := KZ.out.cell 2
    go_wp2_with fail
    refine bodyPost_ret (v := .tuple #[.agg #[.int .i64 0, .slice none 0 0, .slice none 0 0], .int .i64 0, .bool false, .int .i64 5]) (by simp [results, Try.results8, go_sem, y0, y1, y2]) rfl ?_
    rw [← HR5.out]
    exact RbOut.badK 5 BZ.out
set_option maxHeartbeats 8000000 in
set_option maxRecDepth 100000 in
theorem sRunByRewrites0_c (sy st : Int) (RA : Option Addr) (rn rc : Nat) (rs : List Rule3) (q : Int) (XA : Option Addr) (xn xc : Nat) (xs : List Int) (YA : Option Addr) (yn yc : Nat) (ys : List Int) (bu : Int) (RR : RbT) (w : World) (h : Rd3 w RA rn rs) (hx : RdI w XA xn xs) (hy : RdI w YA yn ys) (hn : rn ≤ 1000000000) (hxn : xn ≤ 1000000000) (hyn : yn ≤ 1000000000) (hR : rbwR sy st rs q xs ys bu = RR) :
    Calls Try.prog 17 #[.agg #[.int .i64 sy, .int .i64 st, .slice RA rn rc], .agg #[.int .i64 q, .slice XA xn xc, .slice YA yn yc], .int .i64 bu] w (RbOut RR w) := by
  obtain ⟨w0, hw0⟩ : ∃ w0, ((w.alloc (.cells #[.int .i64 sy, .int .i64 st, .slice RA rn rc] 35)).alloc (.cells #[.int .i64 q, .slice XA xn xc, .slice YA yn yc] 30)).alloc (.cells #[.int .i64 0, .slice none 0 0, .slice none 0 0] 30) = w0 := ⟨_, rfl⟩
  have E0 := Lib.hid (show Below w.heap.size w w0 by rw [← hw0]; exact ((below_size.alloc (Nat.le_refl _) _).alloc (by simp) _).alloc (by simp; omega) _)
  have KM := Lib.hid (show Blk w0 w.heap.size 35 #[.int .i64 sy, .int .i64 st, .slice RA rn rc] by rw [← hw0]; exact ((Blk.new _ _ _).alloc _).alloc _)
  have KC := Lib.hid (show Blk w0 (w.heap.size + 1) 30 #[.int .i64 q, .slice XA xn xc, .slice YA yn yc] by rw [← hw0]; exact (blk_new2 _ _ _ _ (by simp)).alloc _)
  have KR := Lib.hid (show Blk w0 (w.heap.size + 2) 30 #[.int .i64 0, .slice none 0 0, .slice none 0 0] by rw [← hw0]; exact blk_new2 _ _ _ _ (by simp))
  have HMP := Lib.hid (show MachP w0 w.heap.size sy st RA rn rc rs from ⟨KM.out.cell 0, KM.out.cell 1, KM.out.cell 2, Rd.below h E0.out⟩)
  have HCP := Lib.hid (show ConfP w0 (w.heap.size + 1) q XA xn xc xs YA yn yc ys from ⟨KC.out.cell 0, KC.out.cell 1, KC.out.cell 2, RdI.below hx E0.out, RdI.below hy E0.out⟩)
  have hrl := Rd3.len h; have hxl := hx.len; have hyl := hy.len
  obtain ⟨v1, h1⟩ : ∃ v1, machB sy st rs = v1 := ⟨_, rfl⟩
  obtain ⟨v2, h2⟩ : ∃ v2, confB sy st q xs ys = v2 := ⟨_, rfl⟩
  obtain ⟨b, hb⟩ : ∃ b, inB bu 1 20000 = b := ⟨_, rfl⟩
  have H1 := Lib.hid h1; have H2 := Lib.hid h2; have HB := Lib.hid hb
  have HR := Lib.hid (show (if (v1 && v2) = true then if b = true then rbR sy (sy + st) q xs ys (rwAll sy.toNat (sy + st) 0 rs) bu.toNat else (zeroK, 0, false, 2) else (zeroK, 0, false, 1)) = RR by rw [← hR, rbwR, h1, h2, hb])
  have HL := Lib.hid hrl; have HXL := Lib.hid hxl; have HYL := Lib.hid hyl
  clear h hx hy hR h1 h2 hb hrl hxl hyl
  go_enter Try.func17, Try.ntmps17
  go_wp2_with fail
  refine (l05Is_c w.heap.size sy st RA rn rc rs v1 w0 HMP.out hn H1.out).mono ?_
  rintro e' w1 ⟨rfl, hb1⟩
  have E1 := Lib.hid (below_chain E0.out E0.out.size hb1)
  have KR1 := Lib.hid (KR.out.keep hb1); have HMP1 := Lib.hid (HMP.out.below hb1); have HCP1 := Lib.hid (HCP.out.below hb1)
  clear hw0 hb1 KM KC KR HMP HCP E0
  cases v1
  · have HR2 := Lib.hid (show (zeroK, 0, false, 1) = RR from HR.out)
    have r0 : (w1).cell? ⟨(w.heap.size + 2), 0, none⟩ = some (.int .i64 0) := KR1.out.cell 0
    have r1 : (w1).cell? ⟨(w.heap.size + 2), 1, none⟩ = some (.slice none 0 0) := KR1.out.cell 1
    have r2 : (w1).cell? ⟨(w.heap.size + 2), 2, none⟩ = some (.slice none 0 0) := KR1.out.cell 2
    have f0 := KR1.out.frozen 0; have f1 := KR1.out.frozen 1; have f2 := KR1.out.frozen 2
    obtain ⟨w9, hw9⟩ : ∃ w9, ((w1.setCell ⟨w.heap.size + 2, 0, none⟩ (.int .i64 0)).setCell ⟨w.heap.size + 2, 1, none⟩ (.slice none 0 0)).setCell ⟨w.heap.size + 2, 2, none⟩ (.slice none 0 0) = w9 := ⟨_, rfl⟩
    have KZ := Lib.hid (show Blk w9 (w.heap.size + 2) 30 #[.int .i64 0, .slice none 0 0, .slice none 0 0] by rw [← hw9]; exact (((KR1.out.set_ 0 _).set_ 1 _).set_ 2 _))
    have BZ := Lib.hid (show Below w.heap.size w w9 by rw [← hw9]; exact ((E1.out.setCell (by simp) _).setCell (by simp) _).setCell (by simp) _)
    have y0 : w9.cell? ⟨w.heap.size + 2, 0, none⟩ = some (.int .i64 0) := KZ.out.cell 0
    have y1 : w9.cell? ⟨w.heap.size + 2, 1, none⟩ = some (.slice none 0 0) := KZ.out.cell 1
    have y2 : w9.cell? ⟨w.heap.size + 2, 2, none⟩ = some (.slice none 0 0) := KZ.out.cell 2
    go_wp2_with fail
    refine bodyPost_ret (v := .tuple #[.agg #[.int .i64 0, .slice none 0 0, .slice none 0 0], .int .i64 0, .bool false, .int .i64 1]) (by simp [results, Try.results17, go_sem, y0, y1, y2]) rfl ?_
    rw [← HR2.out]
    exact RbOut.badK 1 BZ.out
  have h1p := H1.out
  simp only [machB, Bool.and_eq_true, beq_iff_eq] at h1p
  obtain ⟨⟨⟨hsy, hst⟩, _⟩, _⟩ := h1p
  have hsy := inB_t hsy; have hst := inB_t hst
  go_wp2_with fail
  refine (l05Good_c w.heap.size sy st RA rn rc rs (w.heap.size + 1) q XA xn xc xs YA yn yc ys v2 w1 HMP1.out HCP1.out hsy hst hxn hyn H2.out).mono ?_
  rintro e' w2 ⟨rfl, hq2⟩
  have hb2 := hq2.below w1.heap.size
  have E2 := Lib.hid (below_chain E1.out E1.out.size hb2)
  have KR2 := Lib.hid (KR1.out.keep hb2); have HMP2 := Lib.hid (HMP1.out.below hb2); have HCP2 := Lib.hid (HCP1.out.below hb2)
  clear hq2 hb2 E1 KR1 HMP1 HCP1
  cases v2
  · have HR2 := Lib.hid (show (zeroK, 0, false, 1) = RR from HR.out)
    have r0 : (w2).cell? ⟨(w.heap.size + 2), 0, none⟩ = some (.int .i64 0) := KR2.out.cell 0
    have r1 : (w2).cell? ⟨(w.heap.size + 2), 1, none⟩ = some (.slice none 0 0) := KR2.out.cell 1
    have r2 : (w2).cell? ⟨(w.heap.size + 2), 2, none⟩ = some (.slice none 0 0) := KR2.out.cell 2
    have f0 := KR2.out.frozen 0; have f1 := KR2.out.frozen 1; have f2 := KR2.out.frozen 2
    obtain ⟨w9, hw9⟩ : ∃ w9, ((w2.setCell ⟨w.heap.size + 2, 0, none⟩ (.int .i64 0)).setCell ⟨w.heap.size + 2, 1, none⟩ (.slice none 0 0)).setCell ⟨w.heap.size + 2, 2, none⟩ (.slice none 0 0) = w9 := ⟨_, rfl⟩
    have KZ := Lib.hid (show Blk w9 (w.heap.size + 2) 30 #[.int .i64 0, .slice none 0 0, .slice none 0 0] by rw [← hw9]; exact (((KR2.out.set_ 0 _).set_ 1 _).set_ 2 _))
    have BZ := Lib.hid (show Below w.heap.size w w9 by rw [← hw9]; exact ((E2.out.setCell (by simp) _).setCell (by simp) _).setCell (by simp) _)
    have y0 : w9.cell? ⟨w.heap.size + 2, 0, none⟩ = some (.int .i64 0) := KZ.out.cell 0
    have y1 : w9.cell? ⟨w.heap.size + 2, 1, none⟩ = some (.slice none 0 0) := KZ.out.cell 1
    have y2 : w9.cell? ⟨w.heap.size + 2, 2, none⟩ = some (.slice none 0 0) := KZ.out.cell 2
    go_wp2_with fail
    refine bodyPost_ret (v := .tuple #[.agg #[.int .i64 0, .slice none 0 0, .slice none 0 0], .int .i64 0, .bool false, .int .i64 1]) (by simp [results, Try.results17, go_sem, y0, y1, y2]) rfl ?_
    rw [← HR2.out]
    exact RbOut.badK 1 BZ.out
  go_wp2_with fail
  refine (l05BudgetM_b bu b HB.out w2).mono ?_
  rintro e' w' ⟨rfl, rfl⟩
  cases b
  · have HR2 := Lib.hid (show (zeroK, 0, false, 2) = RR from HR.out)
    have r0 : (w2).cell? ⟨(w.heap.size + 2), 0, none⟩ = some (.int .i64 0) := KR2.out.cell 0
    have r1 : (w2).cell? ⟨(w.heap.size + 2), 1, none⟩ = some (.slice none 0 0) := KR2.out.cell 1
    have r2 : (w2).cell? ⟨(w.heap.size + 2), 2, none⟩ = some (.slice none 0 0) := KR2.out.cell 2
    have f0 := KR2.out.frozen 0; have f1 := KR2.out.frozen 1; have f2 := KR2.out.frozen 2
    obtain ⟨w9, hw9⟩ : ∃ w9, ((w2.setCell ⟨w.heap.size + 2, 0, none⟩ (.int .i64 0)).setCell ⟨w.heap.size + 2, 1, none⟩ (.slice none 0 0)).setCell ⟨w.heap.size + 2, 2, none⟩ (.slice none 0 0) = w9 := ⟨_, rfl⟩
    have KZ := Lib.hid (show Blk w9 (w.heap.size + 2) 30 #[.int .i64 0, .slice none 0 0, .slice none 0 0] by rw [← hw9]; exact (((KR2.out.set_ 0 _).set_ 1 _).set_ 2 _))
    have BZ := Lib.hid (show Below w.heap.size w w9 by rw [← hw9]; exact ((E2.out.setCell (by simp) _).setCell (by simp) _).setCell (by simp) _)
    have y0 : w9.cell? ⟨w.heap.size + 2, 0, none⟩ = some (.int .i64 0) := KZ.out.cell 0
    have y1 : w9.cell? ⟨w.heap.size + 2, 1, none⟩ = some (.slice none 0 0) := KZ.out.cell 1
    have y2 : w9.cell? ⟨w.heap.size + 2, 2, none⟩ = some (.slice none 0 0) := KZ.out.cell 2
    go_wp2_with fail
    refine bodyPost_ret (v := .tuple #[.agg #[.int .i64 0, .slice none 0 0, .slice none 0 0], .int .i64 0, .bool false, .int .i64 2]) (by simp [results, Try.results17, go_sem, y0, y1, y2]) rfl ?_
    rw [← HR2.out]
    exact RbOut.badK 2 BZ.out
  obtain ⟨a1, a2, a3, a4, a5, a6, a7, a8, a9, a10⟩ := rwOk H1.out H2.out
  have a11 := inB_t HB.out
  have HR2 := Lib.hid (show rbR sy (sy + st) q xs ys (rwAll sy.toNat (sy + st) 0 rs) bu.toNat = RR from HR.out)
  clear HB HR H2 hsy hst
  obtain ⟨s, rfl⟩ := Int.eq_ofNat_of_zero_le (show 0 ≤ sy by omega)
  obtain ⟨B, rfl⟩ := Int.eq_ofNat_of_zero_le (show 0 ≤ bu by omega)
  obtain ⟨e, he⟩ : ∃ e, (s : Int) + st = e := ⟨_, rfl⟩
  rw [Int.toNat_natCast] at a10
  rw [he] at a10
  obtain ⟨X, hX⟩ : ∃ X, rwAll s e 0 rs = X := ⟨_, rfl⟩
  rw [hX] at a10
  obtain ⟨W, hW⟩ : ∃ W, wordW s e q xs ys = W := ⟨_, rfl⟩
  have HR3 := Lib.hid (show rbR s e q xs ys X B = RR by have := HR2.out; rw [Int.toNat_natCast, Int.toNat_natCast, he, hX] at this; exact this)
  have A9 := Lib.hid a9; have A10 := Lib.hid a10
  have HXX := Lib.hid hX; have HWW := Lib.hid hW; have HE := Lib.hid he.symm
  have b4 : xn ≤ 200 := by have := HXL.out; omega
  have b5 : yn ≤ 200 := by have := HYL.out; omega
  have b8 : rn ≤ 10000 := by have := HL.out; omega
  have b1 : 2 ≤ s ∧ s ≤ 6 := by omega
  have b9 : B ≤ 100000 := by omega
  have b6 : 0 ≤ q ∧ q ≤ 1000 := by omega
  have HGW := Lib.hid (show GoodW s e W by rw [← hW]; exact wordW_good (by omega) (by omega) a6 a7)
  clear a4 a5 a6 a7 a8 a9 a10 HR2 hX hW he HXL HYL HL
  go_wp2_with fail
  refine (l16Rules_c w.heap.size s st e RA rn rc rs X w2 HMP2.out b1 HE.out a2 b8 A9.out HXX.out).mono ?_
  rintro e' w3 ⟨P, m, pc, ts, rfl, hL, hT, hb3⟩
  have hXl : m = X.length := by rw [← hT, List.length_map]; exact hL.len.symm
  obtain ⟨fb, hfb⟩ : ∃ fb, (decide (0 < X.length) && decide (X.length ≤ 60) && decide (e ≤ 9)) = fb := ⟨_, rfl⟩
  have HFB := Lib.hid (show fitsB e X = fb by
    rw [← hfb, fitsB]
    by_cases q1 : e ≤ 9 <;> by_cases q2 : 0 < X.length <;> by_cases q3 : X.length ≤ 60 <;> simp [q1, q2, q3, Nat.succ_le_iff])
  rw [hfb]
  have E3 := Lib.hid (below_chain E2.out E2.out.size hb3)
  have KR3 := Lib.hid (KR2.out.keep hb3); have HMP3 := Lib.hid (HMP2.out.below hb3); have HCP3 := Lib.hid (HCP2.out.below hb3)
  have D3 := Lib.hid hL.rwD; have HT := Lib.hid hT; have HXLN := Lib.hid hXl
  clear hL hT hb3 hXl hfb E2 KR2 HMP2 HCP2
  go_wp2_with fail
  refine (l16Word_c w.heap.size s st e RA rn rc rs (w.heap.size + 1) q XA xn xc xs YA yn yc ys W w3 HMP3.out HCP3.out b1 HE.out a2 b6 b4 b5 HWW.out).mono ?_
  rintro e' w4 ⟨AW, cW, rfl, hRW, hWl, hWc, hb4⟩
  obtain ⟨l, hl⟩ : ∃ l, W.length = l := ⟨_, rfl⟩
  rw [hl] at hRW hWc hWl ⊢
  have HWL := Lib.hid hl
  have HRW := Lib.hid (show RdI w4 AW l W from hRW.rdI)
  have E4 := Lib.hid (below_chain E3.out E3.out.size hb4)
  have KR4 := Lib.hid (KR3.out.keep hb4); have HMP4 := Lib.hid (HMP3.out.below hb4)
  have D4 := Lib.hid (D3.out.below hb4)
  have hl403 : l ≤ 403 := by omega
  clear hRW hWl hb4 hl E3 KR3 HMP3 HCP3 D3
  cases fb
  · have HR4 := Lib.hid (show (zeroK, 0, false, 5) = RR by rw [← HR3.out, rbR, if_neg (by rw [HFB.out]; simp)])
    have r0 : (w4).cell? ⟨(w.heap.size + 2), 0, none⟩ = some (.int .i64 0) := KR4.out.cell 0
    have r1 : (w4).cell? ⟨(w.heap.size + 2), 1, none⟩ = some (.slice none 0 0) := KR4.out.cell 1
    have r2 : (w4).cell? ⟨(w.heap.size + 2), 2, none⟩ = some (.slice none 0 0) := KR4.out.cell 2
    have f0 := KR4.out.frozen 0; have f1 := KR4.out.frozen 1; have f2 := KR4.out.frozen 2
    obtain ⟨w9, hw9⟩ : ∃ w9, ((w4.setCell ⟨w.heap.size + 2, 0, none⟩ (.int .i64 0)).setCell ⟨w.heap.size + 2, 1, none⟩ (.slice none 0 0)).setCell ⟨w.heap.size + 2, 2, none⟩ (.slice none 0 0) = w9 := ⟨_, rfl⟩
    have KZ := Lib.hid (show Blk w9 (w.heap.size + 2) 30 #[.int .i64 0, .slice none 0 0, .slice none 0 0] by rw [← hw9]; exact (((KR4.out.set_ 0 _).set_ 1 _).set_ 2 _))
    have BZ := Lib.hid (show Below w.heap.size w w9 by rw [← hw9]; exact ((E4.out.setCell (by simp) _).setCell (by simp) _).setCell (by simp) _)
    have y0 : w9.cell? ⟨w.heap.size + 2, 0, none⟩ = some (.int .i64 0) := KZ.out.cell 0
    have y1 : w9.cell? ⟨w.heap.size + 2, 1, none⟩ = some (.slice none 0 0) := KZ.out.cell 1
    have y2 : w9.cell? ⟨w.heap.size + 2, 2, none⟩ = some (.slice none 0 0) := KZ.out.cell 2
    go_wp2_with fail
    refine bodyPost_ret (v := .tuple #[.agg #[.int .i64 0, .slice none 0 0, .slice none 0 0], .int .i64 0, .bool false, .int .i64 5]) (by simp [results, Try.results17, go_sem, y0, y1, y2]) rfl ?_
    rw [← HR4.out]
    exact RbOut.badK 5 BZ.out
  have HFX := Lib.hid (show e ≤ 9 ∧ 1 ≤ X.length ∧ X.length ≤ 60 by
    have hf := HFB.out
    simp only [fitsB, Bool.and_eq_true, decide_eq_true_eq] at hf
    exact ⟨hf.1.1, hf.1.2, hf.2⟩)
  have hm60 : m ≤ 60 := by have h1 := HFX.out; have h2 := HXLN.out; omega
  have HR4 := Lib.hid (show rbW s e X B W = RR by rw [← HR3.out, rbR, if_pos HFB.out, HWW.out])
  by_cases h4 : l ≤ 400
  · have g4 : decide ((400 : Int) < (l : Int)) = false := by rw [decide_eq_false_iff_not]; omega
    obtain ⟨RV, hRV⟩ : ∃ RV, runW (stB s e) X B W 0 = RV := ⟨_, rfl⟩
    have HRV := Lib.hid hRV
    have HR5 := Lib.hid (show rbV s e RV = RR by rw [← HR4.out, rbW, if_pos (by rw [HWL.out]; exact h4), hRV])
    have HTG := Lib.hid (show ∀ t k b, RV = some (t, k, b) → (∀ x ∈ t, 0 ≤ x ∧ x ≤ e) ∧ t.length ≤ 400 from fun t k b h9 => by
      have := runW_good A10.out HGW.out (by rw [HWL.out]; exact h4) (hRV.trans h9)
      exact ⟨this.1.ltr, this.2.1⟩)
    clear hRV
    go_wp2_with fail
    obtain ⟨hlb, hdf⟩ := rwOk2 H1.out
    rw [Int.toNat_natCast, ← HE.out, HXX.out] at hlb hdf
    obtain ⟨RL, hRL⟩ : ∃ RL, runL (stB s e) X B W [] = RL := ⟨_, rfl⟩
    have hRVL : RV = RL.map fun x => (x.1, x.2.1.length, x.2.2) := by rw [← HRV.out, ← hRL]; exact runL_runW (stB s e) X B W []
    have HRVL := Lib.hid hRVL; have HLB := Lib.hid hlb; have HDF := Lib.hid hdf; have HRLL := Lib.hid hRL
    clear hRVL hlb hdf hRL
    refine (l16Run_c s e P m pc ts X AW l cW W B RL w4 D4.out HT.out A10.out HDF.out HLB.out HRW.out HGW.out.one h4 hWc hm60 b9 HRLL.out).mono ?_
    intro e' w6 hrn
    rcases RL with _ | ⟨T, rows, b⟩
    · obtain ⟨rfl, hb6⟩ := hrn
      have E6 := Lib.hid (below_chain E4.out E4.out.size hb6)
      have KR6 := Lib.hid (KR4.out.keep hb6); have HMP6 := Lib.hid (HMP4.out.below hb6)
      have HR6 := Lib.hid (show (zeroK, 0, false, 5) = RR by have h1 := HR5.out; rw [HRVL.out] at h1; exact h1)
      clear hb6
      go_wp2_with fail
      refine (l16Config_c w.heap.size s st e RA rn rc rs none 0 0 [] none w6 HMP6.out RdI.nil (by omega) a2 HE.out (by omega) (by omega) (by simp) (by simp [cfgS, frameB])).mono ?_
      intro e' w7 hcf
      obtain ⟨rfl, hb7⟩ := hcf
      have HR7 := Lib.hid (show (zeroK, 0, false, 5) = RR from HR6.out)
      have E7 := Lib.hid (below_chain E6.out E6.out.size hb7)
      have KR7 := Lib.hid (KR6.out.keep hb7)
      have hz7 : w.heap.size + 2 < w7.heap.size := KR7.out.lt
      obtain ⟨wx, hwx⟩ : ∃ wx, w7.alloc (.cells #[.int .i64 0, .slice none 0 0, .slice none 0 0] 30) = wx := ⟨_, rfl⟩
      have KX := Lib.hid (show Blk wx w7.heap.size 30 #[.int .i64 0, .slice none 0 0, .slice none 0 0] by rw [← hwx]; exact Blk.new _ _ _)
      have KRx := Lib.hid (show Blk wx (w.heap.size + 2) 30 #[.int .i64 0, .slice none 0 0, .slice none 0 0] by rw [← hwx]; exact KR7.out.alloc _)
      have Ex := Lib.hid (show Below w.heap.size w wx by rw [← hwx]; exact E7.out.alloc (by omega) _)
      obtain ⟨d, hd⟩ : ∃ d, w7.heap.size = d := ⟨_, rfl⟩
      rw [hd] at KX hz7
      have x0 : (wx).cell? ⟨d, 0, none⟩ = some (.int .i64 0) := KX.out.cell 0
      have x1 : (wx).cell? ⟨d, 1, none⟩ = some (.slice none 0 0) := KX.out.cell 1
      have x2 : (wx).cell? ⟨d, 2, none⟩ = some (.slice none 0 0) := KX.out.cell 2
      have g0 := KX.out.frozen 0; have g1 := KX.out.frozen 1; have g2 := KX.out.frozen 2
      obtain ⟨wy, hwy⟩ : ∃ wy, ((wx.setCell ⟨d, 0, none⟩ (.int .i64 0)).setCell ⟨d, 1, none⟩ (.slice none 0 0)).setCell ⟨d, 2, none⟩ (.slice none 0 0) = wy := ⟨_, rfl⟩
      have KRy := Lib.hid (show Blk wy (w.heap.size + 2) 30 #[.int .i64 0, .slice none 0 0, .slice none 0 0] by rw [← hwy]; exact ((KRx.out.far (by simp; omega) _).far (by simp; omega) _).far (by simp; omega) _)
      have Ey := Lib.hid (show Below w.heap.size w wy by rw [← hwy]; exact ((Ex.out.setCell (by simp; omega) _).setCell (by simp; omega) _).setCell (by simp; omega) _)
      have r0 : (wy).cell? ⟨(w.heap.size + 2), 0, none⟩ = some (.int .i64 0) := KRy.out.cell 0
      have r1 : (wy).cell? ⟨(w.heap.size + 2), 1, none⟩ = some (.slice none 0 0) := KRy.out.cell 1
      have r2 : (wy).cell? ⟨(w.heap.size + 2), 2, none⟩ = some (.slice none 0 0) := KRy.out.cell 2
      have f0 := KRy.out.frozen 0; have f1 := KRy.out.frozen 1; have f2 := KRy.out.frozen 2
      clear hb7
      obtain ⟨w9, hw9⟩ : ∃ w9, ((wy.setCell ⟨w.heap.size + 2, 0, none⟩ (.int .i64 0)).setCell ⟨w.heap.size + 2, 1, none⟩ (.slice none 0 0)).setCell ⟨w.heap.size + 2, 2, none⟩ (.slice none 0 0) = w9 := ⟨_, rfl⟩
      have KZ := Lib.hid (show Blk w9 (w.heap.size + 2) 30 #[.int .i64 0, .slice none 0 0, .slice none 0 0] by rw [← hw9]; exact (((KRy.out.set_ 0 _).set_ 1 _).set_ 2 _))
      have BZ := Lib.hid (show Below w.heap.size w w9 by rw [← hw9]; exact ((Ey.out.setCell (by simp) _).setCell (by simp) _).setCell (by simp) _)
      have y0 : w9.cell? ⟨w.heap.size + 2, 0, none⟩ = some (.int .i64 0) := KZ.out.cell 0
      have y1 : w9.cell? ⟨w.heap.size + 2, 1, none⟩ = some (.slice none 0 0) := KZ.out.cell 1
      have y2 : w9.cell? ⟨w.heap.size + 2, 2, none⟩ = some (.slice none 0 0) := KZ.out.cell 2
      go_wp2_with fail
      refine bodyPost_ret (v := .tuple #[.agg #[.int .i64 0, .slice none 0 0, .slice none 0 0], .int .i64 0, .bool false, .int .i64 5]) (by simp [results, Try.results17, go_sem, y0, y1, y2]) rfl ?_
      rw [← HR7.out]
      exact RbOut.badK 5 BZ.out
    · obtain ⟨A6, n6, c6, O6, oc6, its, rfl, hR6, hnc6, hn6, _, _, _, hb6⟩ := hrn
      obtain ⟨k, hk⟩ : ∃ k, rows.length = k := ⟨_, rfl⟩
      rw [hk]
      have E6 := Lib.hid (below_chain E4.out E4.out.size hb6)
      have KR6 := Lib.hid (KR4.out.keep hb6); have HMP6 := Lib.hid (HMP4.out.below hb6)
      have HT6 := Lib.hid hR6
      have hRV3 : RV = some (T, k, b) := by rw [HRVL.out, ← hk]; rfl
      have hTG := HTG.out T k b hRV3
      have HTL := Lib.hid hTG.1
      obtain ⟨CV, hCV⟩ : ∃ CV, cfgS s e T = CV := ⟨_, rfl⟩
      have HCV := Lib.hid hCV
      have HR6 := Lib.hid (show rbC2 s st k b CV = RR by rw [← hCV, rbC2_eq k b (by omega) HE.out hTG.1]; have h1 := HR5.out; rw [hRV3] at h1; exact h1)
      clear hR6 hb6 hTG hCV hRV3 hk
      go_wp2_with fail
      refine (l16Config_c w.heap.size s st e RA rn rc rs A6 n6 c6 T CV w6 HMP6.out HT6.out (by omega) a2 HE.out (by omega) hnc6 (fun x hx => by have := HTL.out x hx; have := HFX.out; omega) HCV.out).mono ?_
      intro e' w7 hcf
      rcases CV with _ | ⟨q2, L, M⟩
      · skip
        obtain ⟨rfl, hb7⟩ := hcf
        have HR7 := Lib.hid (show (zeroK, 0, false, 5) = RR from HR6.out)
        have E7 := Lib.hid (below_chain E6.out E6.out.size hb7)
        have KR7 := Lib.hid (KR6.out.keep hb7)
        have hz7 : w.heap.size + 2 < w7.heap.size := KR7.out.lt
        obtain ⟨wx, hwx⟩ : ∃ wx, w7.alloc (.cells #[.int .i64 0, .slice none 0 0, .slice none 0 0] 30) = wx := ⟨_, rfl⟩
        have KX := Lib.hid (show Blk wx w7.heap.size 30 #[.int .i64 0, .slice none 0 0, .slice none 0 0] by rw [← hwx]; exact Blk.new _ _ _)
        have KRx := Lib.hid (show Blk wx (w.heap.size + 2) 30 #[.int .i64 0, .slice none 0 0, .slice none 0 0] by rw [← hwx]; exact KR7.out.alloc _)
        have Ex := Lib.hid (show Below w.heap.size w wx by rw [← hwx]; exact E7.out.alloc (by omega) _)
        obtain ⟨d, hd⟩ : ∃ d, w7.heap.size = d := ⟨_, rfl⟩
        rw [hd] at KX hz7
        have x0 : (wx).cell? ⟨d, 0, none⟩ = some (.int .i64 0) := KX.out.cell 0
        have x1 : (wx).cell? ⟨d, 1, none⟩ = some (.slice none 0 0) := KX.out.cell 1
        have x2 : (wx).cell? ⟨d, 2, none⟩ = some (.slice none 0 0) := KX.out.cell 2
        have g0 := KX.out.frozen 0; have g1 := KX.out.frozen 1; have g2 := KX.out.frozen 2
        obtain ⟨wy, hwy⟩ : ∃ wy, ((wx.setCell ⟨d, 0, none⟩ (.int .i64 0)).setCell ⟨d, 1, none⟩ (.slice none 0 0)).setCell ⟨d, 2, none⟩ (.slice none 0 0) = wy := ⟨_, rfl⟩
        have KRy := Lib.hid (show Blk wy (w.heap.size + 2) 30 #[.int .i64 0, .slice none 0 0, .slice none 0 0] by rw [← hwy]; exact ((KRx.out.far (by simp; omega) _).far (by simp; omega) _).far (by simp; omega) _)
        have Ey := Lib.hid (show Below w.heap.size w wy by rw [← hwy]; exact ((Ex.out.setCell (by simp; omega) _).setCell (by simp; omega) _).setCell (by simp; omega) _)
        have r0 : (wy).cell? ⟨(w.heap.size + 2), 0, none⟩ = some (.int .i64 0) := KRy.out.cell 0
        have r1 : (wy).cell? ⟨(w.heap.size + 2), 1, none⟩ = some (.slice none 0 0) := KRy.out.cell 1
        have r2 : (wy).cell? ⟨(w.heap.size + 2), 2, none⟩ = some (.slice none 0 0) := KRy.out.cell 2
        have f0 := KRy.out.frozen 0; have f1 := KRy.out.frozen 1; have f2 := KRy.out.frozen 2
        clear hb7
        obtain ⟨w9, hw9⟩ : ∃ w9, ((wy.setCell ⟨w.heap.size + 2, 0, none⟩ (.int .i64 0)).setCell ⟨w.heap.size + 2, 1, none⟩ (.slice none 0 0)).setCell ⟨w.heap.size + 2, 2, none⟩ (.slice none 0 0) = w9 := ⟨_, rfl⟩
        have KZ := Lib.hid (show Blk w9 (w.heap.size + 2) 30 #[.int .i64 0, .slice none 0 0, .slice none 0 0] by rw [← hw9]; exact (((KRy.out.set_ 0 _).set_ 1 _).set_ 2 _))
        have BZ := Lib.hid (show Below w.heap.size w w9 by rw [← hw9]; exact ((Ey.out.setCell (by simp) _).setCell (by simp) _).setCell (by simp) _)
        have y0 : w9.cell? ⟨w.heap.size + 2, 0, none⟩ = some (.int .i64 0) := KZ.out.cell 0
        have y1 : w9.cell? ⟨w.heap.size + 2, 1, none⟩ = some (.slice none 0 0) := KZ.out.cell 1
        have y2 : w9.cell? ⟨w.heap.size + 2, 2, none⟩ = some (.slice none 0 0) := KZ.out.cell 2
        go_wp2_with fail
        refine bodyPost_ret (v := .tuple #[.agg #[.int .i64 0, .slice none 0 0, .slice none 0 0], .int .i64 0, .bool false, .int .i64 5]) (by simp [results, Try.results17, go_sem, y0, y1, y2]) rfl ?_
        rw [← HR7.out]
        exact RbOut.badK 5 BZ.out
      · obtain ⟨AL, cL, AM, cM, rfl, hWS, hbd, hb7⟩ := hcf
        obtain ⟨ll, hll⟩ : ∃ ll, L.length = ll := ⟨_, rfl⟩
        obtain ⟨lm, hlm⟩ : ∃ lm, M.length = lm := ⟨_, rfl⟩
        obtain ⟨bb, hbb⟩ : ∃ bb, confB s st q2 L M = bb := ⟨_, rfl⟩
        rw [hll, hlm] at hWS hbd ⊢
        rw [hbb]
        have HR7 := Lib.hid (show (if bb = true then (((q2, L, M), ((k : Nat) : Int), b, 0) : RbT) else (zeroK, 0, false, 5)) = RR by rw [← HR6.out, rbC2, hbb])
        have E7 := Lib.hid (below_chain E6.out E6.out.size hb7)
        have KR7 := Lib.hid (KR6.out.keep hb7)
        have hz6 : w.heap.size + 2 < w6.heap.size := KR6.out.lt
        have WS := Lib.hid hWS
        obtain ⟨w8, hw8⟩ : ∃ w8, w7.alloc (.cells #[.int .i64 q2, .slice AL ll cL, .slice AM lm cM] 30) = w8 := ⟨_, rfl⟩
        have E78 := Lib.hid (show Below w7.heap.size w7 w8 by rw [← hw8]; exact below_size.alloc (Nat.le_refl _) _)
        have E8 := Lib.hid (below_chain E7.out E7.out.size E78.out)
        have KV := Lib.hid (show Blk w8 w7.heap.size 30 #[.int .i64 q2, .slice AL ll cL, .slice AM lm cM] by rw [← hw8]; exact Blk.new _ _ _)
        have KR8 := Lib.hid (KR7.out.keep E78.out)
        have WS8 := Lib.hid (WS.out.below E78.out)
        have HZ8 := Lib.hid E78.out.size
        have v0 : w8.cell? ⟨w7.heap.size, 0, none⟩ = some (.int .i64 q2) := KV.out.cell 0
        have v1 : w8.cell? ⟨w7.heap.size, 1, none⟩ = some (.slice AL ll cL) := KV.out.cell 1
        have v2 : w8.cell? ⟨w7.heap.size, 2, none⟩ = some (.slice AM lm cM) := KV.out.cell 2
        have r0 : (w8).cell? ⟨(w.heap.size + 2), 0, none⟩ = some (.int .i64 0) := KR8.out.cell 0
        have r1 : (w8).cell? ⟨(w.heap.size + 2), 1, none⟩ = some (.slice none 0 0) := KR8.out.cell 1
        have r2 : (w8).cell? ⟨(w.heap.size + 2), 2, none⟩ = some (.slice none 0 0) := KR8.out.cell 2
        have f0 := KR8.out.frozen 0; have f1 := KR8.out.frozen 1; have f2 := KR8.out.frozen 2
        clear hb7 hll hlm hbb hWS
        cases bb
        · have HR8 := Lib.hid (show (zeroK, 0, false, 5) = RR from HR7.out)
          obtain ⟨w9, hw9⟩ : ∃ w9, ((w8.setCell ⟨w.heap.size + 2, 0, none⟩ (.int .i64 0)).setCell ⟨w.heap.size + 2, 1, none⟩ (.slice none 0 0)).setCell ⟨w.heap.size + 2, 2, none⟩ (.slice none 0 0) = w9 := ⟨_, rfl⟩
          have KZ := Lib.hid (show Blk w9 (w.heap.size + 2) 30 #[.int .i64 0, .slice none 0 0, .slice none 0 0] by rw [← hw9]; exact (((KR8.out.set_ 0 _).set_ 1 _).set_ 2 _))
          have BZ := Lib.hid (show Below w.heap.size w w9 by rw [← hw9]; exact ((E8.out.setCell (by simp) _).setCell (by simp) _).setCell (by simp) _)
          have y0 : w9.cell? ⟨w.heap.size + 2, 0, none⟩ = some (.int .i64 0) := KZ.out.cell 0
          have y1 : w9.cell? ⟨w.heap.size + 2, 1, none⟩ = some (.slice none 0 0) := KZ.out.cell 1
          have y2 : w9.cell? ⟨w.heap.size + 2, 2, none⟩ = some (.slice none 0 0) := KZ.out.cell 2
          go_wp2_with fail
          refine bodyPost_ret (v := .tuple #[.agg #[.int .i64 0, .slice none 0 0, .slice none 0 0], .int .i64 0, .bool false, .int .i64 5]) (by simp [results, Try.results17, go_sem, y0, y1, y2]) rfl ?_
          rw [← HR8.out]
          exact RbOut.badK 5 BZ.out
        · have HR8 := Lib.hid (show (((q2, L, M), ((k : Nat) : Int), b, 0) : RbT) = RR from HR7.out)
          obtain ⟨w9, hw9⟩ : ∃ w9, ((w8.setCell ⟨w.heap.size + 2, 0, none⟩ (.int .i64 q2)).setCell ⟨w.heap.size + 2, 1, none⟩ (.slice AL ll cL)).setCell ⟨w.heap.size + 2, 2, none⟩ (.slice AM lm cM) = w9 := ⟨_, rfl⟩
          have KZ := Lib.hid (show Blk w9 (w.heap.size + 2) 30 #[.int .i64 q2, .slice AL ll cL, .slice AM lm cM] by rw [← hw9]; exact (((KR8.out.set_ 0 _).set_ 1 _).set_ 2 _))
          have BZ := Lib.hid (show Below w.heap.size w w9 by rw [← hw9]; exact ((E8.out.setCell (by simp) _).setCell (by simp) _).setCell (by simp) _)
          have WS9 := Lib.hid (show WrS w9 w.heap.size w9.heap.size ([sgI AL ll L] ++ [sgI AM lm M]) by
            have hs9 : w9.heap.size = w8.heap.size := by rw [← hw9]; simp
            rw [hs9, ← hw9]
            exact (((WS8.out.set_far (p := ⟨w.heap.size + 2, 0, none⟩) (.inl hz6) _).set_far (p := ⟨w.heap.size + 2, 1, none⟩) (.inl hz6) _).set_far (p := ⟨w.heap.size + 2, 2, none⟩) (.inl hz6) _).wider E6.out.size HZ8.out)
          have y0 : w9.cell? ⟨w.heap.size + 2, 0, none⟩ = some (.int .i64 q2) := KZ.out.cell 0
          have y1 : w9.cell? ⟨w.heap.size + 2, 1, none⟩ = some (.slice AL ll cL) := KZ.out.cell 1
          have y2 : w9.cell? ⟨w.heap.size + 2, 2, none⟩ = some (.slice AM lm cM) := KZ.out.cell 2
          go_wp2_with fail
          refine bodyPost_ret (v := .tuple #[.agg #[.int .i64 q2, .slice AL ll cL, .slice AM lm cM], .int .i64 ((k : Nat) : Int), .bool b, .int .i64 0]) (by simp [results, Try.results17, go_sem, y0, y1, y2]) rfl ?_
          rw [← HR8.out]
          exact ⟨AL, ll, cL, AM, lm, cM, rfl, WS9.out, hbd, BZ.out⟩
  · have g4 : decide ((400 : Int) < (l : Int)) = true := by rw [decide_eq_true_eq]; omega
    have HR5 := Lib.hid (show (zeroK, 0, false, 5) = RR by rw [← HR4.out, rbW, if_neg (by rw [HWL.out]; exact h4)])
    have r0 : (w4).cell? ⟨(w.heap.size + 2), 0, none⟩ = some (.int .i64 0) := KR4.out.cell 0
    have r1 : (w4).cell? ⟨(w.heap.size + 2), 1, none⟩ = some (.slice none 0 0) := KR4.out.cell 1
    have r2 : (w4).cell? ⟨(w.heap.size + 2), 2, none⟩ = some (.slice none 0 0) := KR4.out.cell 2
    have f0 := KR4.out.frozen 0; have f1 := KR4.out.frozen 1; have f2 := KR4.out.frozen 2
    obtain ⟨w9, hw9⟩ : ∃ w9, ((w4.setCell ⟨w.heap.size + 2, 0, none⟩ (.int .i64 0)).setCell ⟨w.heap.size + 2, 1, none⟩ (.slice none 0 0)).setCell ⟨w.heap.size + 2, 2, none⟩ (.slice none 0 0) = w9 := ⟨_, rfl⟩
    have KZ := Lib.hid (show Blk w9 (w.heap.size + 2) 30 #[.int .i64 0, .slice none 0 0, .slice none 0 0] by rw [← hw9]; exact (((KR4.out.set_ 0 _).set_ 1 _).set_ 2 _))
    have BZ := Lib.hid (show Below w.heap.size w w9 by rw [← hw9]; exact ((E4.out.setCell (by simp) _).setCell (by simp) _).setCell (by simp) _)
    have y0 : w9.cell? ⟨w.heap.size + 2, 0, none⟩ = some (.int .i64 0) := KZ.out.cell 0
    have y1 : w9.cell? ⟨w.heap.size + 2, 1, none⟩ = some (.slice none 0 0) := KZ.out.cell 1
    have y2 : w9.cell? ⟨w.heap.size + 2, 2, none⟩ = some (.slice none 0 0) := KZ.out.cell 2
    go_wp2_with fail
    refine bodyPost_ret (v := .tuple #[.agg #[.int .i64 0, .slice none 0 0, .slice none 0 0], .int .i64 0, .bool false, .int .i64 5]) (by simp [results, Try.results17, go_sem, y0, y1, y2]) rfl ?_
    rw [← HR5.out]
    exact RbOut.badK 5 BZ.out
end Go.Proofs.Ytcbcjhfeidkeaaa
