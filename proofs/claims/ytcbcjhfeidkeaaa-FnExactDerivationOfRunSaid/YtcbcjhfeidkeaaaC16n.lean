/-
  Contracts of chapter 16: a run by the rewriting rules, of the program: what it checks first.
-/
import Derived.Test.YtcbcjhfeidkeaaaC16m
namespace Go.Proofs.Ytcbcjhfeidkeaaa
open Go.RowKit

theorem budgetOkW_b (b : Int) (q : Bool) (hq : inB b 1 20000 = q) (w : World) : Calls Try.prog 43 #[.int .i64 b] w fun e w' => e = .returned (.bool q) ∧ w = w' := by
  subst hq
  go_enter Try.func43, Try.ntmps43
  go_wp2_with (go_at_call 47; refine (within_c _ _ _ _).mono ?_; rintro e w' ⟨rfl, rfl⟩)
  go_ret
  exact ⟨rfl, rfl⟩
set_option maxHeartbeats 2000000 in
set_option maxRecDepth 100000 in
theorem validConfigW_c (sy st : Int) (RA : Option Addr) (rn rc : Nat) (rs : List Rule3) (q : Int) (XA : Option Addr) (xn xc : Nat) (xs : List Int) (YA : Option Addr) (yn yc : Nat) (ys : List Int) (v : Bool) (w : World) (h : Rd3 w RA rn rs) (hx : RdI w XA xn xs) (hy : RdI w YA yn ys) (hn : rn ≤ 1000000000) (hxn : xn ≤ 1000000000) (hyn : yn ≤ 1000000000) (hv : (machB sy st rs && confB sy st q xs ys) = v) :
    Calls Try.prog 42 #[.agg #[.int .i64 sy, .int .i64 st, .slice RA rn rc], .agg #[.int .i64 q, .slice XA xn xc, .slice YA yn yc]] w fun e' w' => e' = .returned (.bool v) ∧ Below w.heap.size w w' := by
  obtain ⟨w0, hw0⟩ : ∃ w0, (w.alloc (.cells #[.int .i64 sy, .int .i64 st, .slice RA rn rc] 35)).alloc (.cells #[.int .i64 q, .slice XA xn xc, .slice YA yn yc] 30) = w0 := ⟨_, rfl⟩
  have E0 := Lib.hid (show Below w.heap.size w w0 by rw [← hw0]; exact (below_size.alloc (Nat.le_refl _) _).alloc (by simp) _)
  have KM := Lib.hid (show Blk w0 w.heap.size 35 #[.int .i64 sy, .int .i64 st, .slice RA rn rc] by rw [← hw0]; exact (Blk.new _ _ _).alloc _)
  have KC := Lib.hid (show Blk w0 (w.heap.size + 1) 30 #[.int .i64 q, .slice XA xn xc, .slice YA yn yc] by rw [← hw0]; exact blk_new2 _ _ _ _ (by simp))
  have H := Lib.hid (Rd.below h E0.out); have HX := Lib.hid (RdI.below hx E0.out); have HY := Lib.hid (RdI.below hy E0.out)
  obtain ⟨v1, h1⟩ : ∃ v1, machB sy st rs = v1 := ⟨_, rfl⟩
  have H1 := Lib.hid h1; have HV := Lib.hid hv
  have m0 : w0.cell? ⟨w.heap.size, 0, none⟩ = some (.int .i64 sy) := KM.out.cell 0
  have m1 : w0.cell? ⟨w.heap.size, 1, none⟩ = some (.int .i64 st) := KM.out.cell 1
  have m2 : w0.cell? ⟨w.heap.size, 2, none⟩ = some (.slice RA rn rc) := KM.out.cell 2
  clear h hx hy h1 hv
  go_enter Try.func42, Try.ntmps42
  go_wp2_with fail
  refine (validMachine_c sy st RA rn rc rs v1 w0 H.out hn H1.out).mono ?_
  rintro e' w1 ⟨rfl, hb1⟩
  have E1 := Lib.hid (below_chain E0.out E0.out.size hb1)
  clear hw0 m0 m1 m2
  cases v1
  · have HF := Lib.hid (show false = v by rw [← HV.out, H1.out]; rfl)
    clear hb1
    go_wp2_with fail
    go_ret
    exact ⟨by rw [← HF.out]; rfl, E1.out⟩
  · have KM1 := Lib.hid (KM.out.keep hb1); have KC1 := Lib.hid (KC.out.keep hb1)
    have HX1 := Lib.hid (RdI.below HX.out hb1); have HY1 := Lib.hid (RdI.below HY.out hb1)
    have HF := Lib.hid (show confB sy st q xs ys = v by rw [← HV.out, H1.out]; rfl)
    have h1p := H1.out
    simp only [machB, Bool.and_eq_true, beq_iff_eq] at h1p
    obtain ⟨⟨⟨hsy, hst⟩, _⟩, _⟩ := h1p
    have m0 : w1.cell? ⟨w.heap.size, 0, none⟩ = some (.int .i64 sy) := KM1.out.cell 0
    have m1 : w1.cell? ⟨w.heap.size, 1, none⟩ = some (.int .i64 st) := KM1.out.cell 1
    have m2 : w1.cell? ⟨w.heap.size, 2, none⟩ = some (.slice RA rn rc) := KM1.out.cell 2
    have c0 : w1.cell? ⟨w.heap.size + 1, 0, none⟩ = some (.int .i64 q) := KC1.out.cell 0
    have c1 : w1.cell? ⟨w.heap.size + 1, 1, none⟩ = some (.slice XA xn xc) := KC1.out.cell 1
    have c2 : w1.cell? ⟨w.heap.size + 1, 2, none⟩ = some (.slice YA yn yc) := KC1.out.cell 2
    clear hb1
    go_wp2_with fail
    refine (configOf_c sy st RA rn rc q XA xn xc xs YA yn yc ys v w1 HX1.out HY1.out hxn hyn (inB_t hsy) (inB_t hst) HF.out).mono ?_
    rintro e' w2 ⟨rfl, hb2⟩
    have E2 := Lib.hid (below_chain E1.out E1.out.size hb2)
    clear hb2 m0 m1 m2 c0 c1 c2
    go_wp2_with fail
    go_ret
    exact ⟨rfl, E2.out⟩
theorem RbOut.badK {w w' : World} (k : Int) (h : Below w.heap.size w w') : RbOut (zeroK, 0, false, k) w (.returned (.tuple #[.agg #[i64 0, .slice none 0 0, .slice none 0 0], i64 0, .bool false, i64 k])) w' :=
  ⟨none, 0, 0, none, 0, 0, rfl, ⟨fun s hs => by rcases List.mem_append.1 hs with hs | hs <;> (rw [List.mem_singleton] at hs; subst hs; exact Wr.nil), by
    refine List.pairwise_append.2 ⟨List.pairwise_singleton _ _, List.pairwise_singleton _ _, fun s hs t ht a b ha hb hn hm => ?_⟩
    rw [List.mem_singleton] at hs; subst hs; simp [sgI] at ha⟩, ⟨by omega, by omega⟩, h⟩
/-- a run of a machine by its rewriting rules: what is answered -/
def rbwR (sy st : Int) (rs : List Rule3) (q : Int) (xs ys : List Int) (b : Int) : RbT :=
  if (machB sy st rs && confB sy st q xs ys) = true then
    if inB b 1 20000 = true then rbR sy (sy + st) q xs ys (rwAll sy.toNat (sy + st) 0 rs) b.toNat else (zeroK, 0, false, 2)
  else (zeroK, 0, false, 1)
/-- what the checks give -/
theorem rwOk {sy st q : Int} {rs : List Rule3} {xs ys : List Int} (h1 : machB sy st rs = true) (h2 : confB sy st q xs ys = true) :
    (2 ≤ sy ∧ sy ≤ 6) ∧ (1 ≤ st ∧ st ≤ 1000) ∧ (0 ≤ q ∧ q < st) ∧ xs.length ≤ 200 ∧ ys.length ≤ 200 ∧ (∀ x ∈ xs, 0 ≤ x ∧ x < sy) ∧ (∀ x ∈ ys, 0 ≤ x ∧ x < sy) ∧ rs.length ≤ 6000 ∧ (∀ r ∈ rs, r ≠ noneR → 0 ≤ r.2.2 ∧ r.2.2 ≤ 100000) ∧ ∀ r ∈ rwAll sy.toNat (sy + st) 0 rs, GoodR sy (sy + st) r := by
  simp only [machB, Bool.and_eq_true, beq_iff_eq, List.all_eq_true] at h1
  obtain ⟨⟨⟨a1, a2⟩, a3⟩, a4⟩ := h1
  have a1 := inB_t a1; have a2 := inB_t a2
  simp only [confB, sideB, Bool.and_eq_true, decide_eq_true_eq] at h2
  obtain ⟨⟨b1, ⟨⟨b2, b3⟩, _⟩⟩, ⟨⟨b4, b5⟩, _⟩⟩ := h2
  have b1 := inB_t b1
  have hm := mul_bd2 a1 a2
  refine ⟨a1, a2, by omega, by omega, by omega, fun x hx => by have := allB_mem b3 x hx; omega, fun x hx => by have := allB_mem b5 x hx; omega, by omega, fun r hr hn => ?_, ?_⟩
  · have := a4 r hr
    simp only [ruleB, Bool.or_eq_true, Bool.and_eq_true, decide_eq_true_eq] at this
    rcases this with h | ⟨_, h⟩
    · exact absurd h hn
    · have := inB_t h; omega
  · obtain ⟨s, rfl⟩ := Int.eq_ofNat_of_zero_le (show 0 ≤ sy by omega)
    obtain ⟨m, rfl⟩ := Int.eq_ofNat_of_zero_le (show 0 ≤ st by omega)
    rw [Int.toNat_natCast]
    exact rwAll_good (m := m) (by omega) rfl a4 (by
      have : ((rs.length : Nat) : Int) = ((s * m : Nat) : Int) := by rw [a3, Int.natCast_mul]
      omega)
set_option maxHeartbeats 8000000 in
set_option maxRecDepth 100000 in
theorem iRunByRewrites0_c (sy st : Int) (RA : Option Addr) (rn rc : Nat) (rs : List Rule3) (q : Int) (XA : Option Addr) (xn xc : Nat) (xs : List Int) (YA : Option Addr) (yn yc : Nat) (ys : List Int) (bu : Int) (RR : RbT) (w : World) (h : Rd3 w RA rn rs) (hx : RdI w XA xn xs) (hy : RdI w YA yn ys) (hn : rn ≤ 1000000000) (hxn : xn ≤ 1000000000) (hyn : yn ≤ 1000000000) (hR : rbwR sy st rs q xs ys bu = RR) :
    Calls Try.prog 18 #[.agg #[.int .i64 sy, .int .i64 st, .slice RA rn rc], .agg #[.int .i64 q, .slice XA xn xc, .slice YA yn yc], .int .i64 bu] w (RbOut RR w) := by
  obtain ⟨w0, hw0⟩ : ∃ w0, ((w.alloc (.cells #[.int .i64 sy, .int .i64 st, .slice RA rn rc] 35)).alloc (.cells #[.int .i64 q, .slice XA xn xc, .slice YA yn yc] 30)).alloc (.cells #[.int .i64 0, .slice none 0 0, .slice none 0 0] 30) = w0 := ⟨_, rfl⟩
  have E0 := Lib.hid (show Below w.heap.size w w0 by rw [← hw0]; exact ((below_size.alloc (Nat.le_refl _) _).alloc (by simp) _).alloc (by simp; omega) _)
  have KM := Lib.hid (show Blk w0 w.heap.size 35 #[.int .i64 sy, .int .i64 st, .slice RA rn rc] by rw [← hw0]; exact ((Blk.new _ _ _).alloc _).alloc _)
  have KC := Lib.hid (show Blk w0 (w.heap.size + 1) 30 #[.int .i64 q, .slice XA xn xc, .slice YA yn yc] by rw [← hw0]; exact (blk_new2 _ _ _ _ (by simp)).alloc _)
  have KR := Lib.hid (show Blk w0 (w.heap.size + 2) 30 #[.int .i64 0, .slice none 0 0, .slice none 0 0] by rw [← hw0]; exact blk_new2 _ _ _ _ (by simp))
  have H := Lib.hid (Rd.below h E0.out); have HX := Lib.hid (RdI.below hx E0.out); have HY := Lib.hid (RdI.below hy E0.out)
  have hrl := Rd3.len h; have hxl := hx.len; have hyl := hy.len
  obtain ⟨v, hv⟩ : ∃ v, (machB sy st rs && confB sy st q xs ys) = v := ⟨_, rfl⟩
  obtain ⟨b, hb⟩ : ∃ b, inB bu 1 20000 = b := ⟨_, rfl⟩
  have HV := Lib.hid hv; have HB := Lib.hid hb
  have HR := Lib.hid (show (if v = true then if b = true then rbR sy (sy + st) q xs ys (rwAll sy.toNat (sy + st) 0 rs) bu.toNat else (zeroK, 0, false, 2) else (zeroK, 0, false, 1)) = RR by rw [← hR, rbwR, hv, hb])
  have m0 : w0.cell? ⟨w.heap.size, 0, none⟩ = some (.int .i64 sy) := KM.out.cell 0
  have m1 : w0.cell? ⟨w.heap.size, 1, none⟩ = some (.int .i64 st) := KM.out.cell 1
  have m2 : w0.cell? ⟨w.heap.size, 2, none⟩ = some (.slice RA rn rc) := KM.out.cell 2
  have c0 : w0.cell? ⟨w.heap.size + 1, 0, none⟩ = some (.int .i64 q) := KC.out.cell 0
  have c1 : w0.cell? ⟨w.heap.size + 1, 1, none⟩ = some (.slice XA xn xc) := KC.out.cell 1
  have c2 : w0.cell? ⟨w.heap.size + 1, 2, none⟩ = some (.slice YA yn yc) := KC.out.cell 2
  have HL := Lib.hid hrl; have HXL := Lib.hid hxl; have HYL := Lib.hid hyl
  clear h hx hy hR hv hb hrl hxl hyl
  go_enter Try.func18, Try.ntmps18
  go_wp2_with fail
  refine (validConfigW_c sy st RA rn rc rs q XA xn xc xs YA yn yc ys v w0 H.out HX.out HY.out hn hxn hyn HV.out).mono ?_
  rintro e' w1 ⟨rfl, hb1⟩
  have E1 := Lib.hid (below_chain E0.out E0.out.size hb1)
  have KR1 := Lib.hid (KR.out.keep hb1); have KM1 := Lib.hid (KM.out.keep hb1); have KC1 := Lib.hid (KC.out.keep hb1)
  have H1 := Lib.hid (Rd.below H.out hb1); have HX1 := Lib.hid (RdI.below HX.out hb1); have HY1 := Lib.hid (RdI.below HY.out hb1)
  clear hw0 hb1 m0 m1 m2 c0 c1 c2
  have r0 : w1.cell? ⟨w.heap.size + 2, 0, none⟩ = some (.int .i64 0) := KR1.out.cell 0
  have r1 : w1.cell? ⟨w.heap.size + 2, 1, none⟩ = some (.slice none 0 0) := KR1.out.cell 1
  have r2 : w1.cell? ⟨w.heap.size + 2, 2, none⟩ = some (.slice none 0 0) := KR1.out.cell 2
  have f0 := KR1.out.frozen 0; have f1 := KR1.out.frozen 1; have f2 := KR1.out.frozen 2
  cases v
  · have HR2 := Lib.hid (show (zeroK, 0, false, 1) = RR from HR.out)
    obtain ⟨w9, hw9⟩ : ∃ w9, ((w1.setCell ⟨w.heap.size + 2, 0, none⟩ (.int .i64 0)).setCell ⟨w.heap.size + 2, 1, none⟩ (.slice none 0 0)).setCell ⟨w.heap.size + 2, 2, none⟩ (.slice none 0 0) = w9 := ⟨_, rfl⟩
    have KZ := Lib.hid (show Blk w9 (w.heap.size + 2) 30 #[.int .i64 0, .slice none 0 0, .slice none 0 0] by rw [← hw9]; exact (((KR1.out.set_ 0 _).set_ 1 _).set_ 2 _))
    have BZ := Lib.hid (show Below w.heap.size w w9 by rw [← hw9]; exact ((E1.out.setCell (by simp) _).setCell (by simp) _).setCell (by simp) _)
    have y0 : w9.cell? ⟨w.heap.size + 2, 0, none⟩ = some (.int .i64 0) := KZ.out.cell 0
    have y1 : w9.cell? ⟨w.heap.size + 2, 1, none⟩ = some (.slice none 0 0) := KZ.out.cell 1
    have y2 : w9.cell? ⟨w.heap.size + 2, 2, none⟩ = some (.slice none 0 0) := KZ.out.cell 2
    go_wp2_with fail
    refine bodyPost_ret (v := .tuple #[.agg #[.int .i64 0, .slice none 0 0, .slice none 0 0], .int .i64 0, .bool false, .int .i64 1]) (by simp [results, Try.results18, go_sem, y0, y1, y2]) rfl ?_
    rw [← HR2.out]
    exact RbOut.badK 1 BZ.out
  · cases b
    · have HR2 := Lib.hid (show (zeroK, 0, false, 2) = RR from HR.out)
      go_wp2_with fail
      refine (budgetOkW_b bu false HB.out w1).mono ?_
      rintro e' w' ⟨rfl, rfl⟩
      obtain ⟨w9, hw9⟩ : ∃ w9, ((w1.setCell ⟨w.heap.size + 2, 0, none⟩ (.int .i64 0)).setCell ⟨w.heap.size + 2, 1, none⟩ (.slice none 0 0)).setCell ⟨w.heap.size + 2, 2, none⟩ (.slice none 0 0) = w9 := ⟨_, rfl⟩
      have KZ := Lib.hid (show Blk w9 (w.heap.size + 2) 30 #[.int .i64 0, .slice none 0 0, .slice none 0 0] by rw [← hw9]; exact (((KR1.out.set_ 0 _).set_ 1 _).set_ 2 _))
      have BZ := Lib.hid (show Below w.heap.size w w9 by rw [← hw9]; exact ((E1.out.setCell (by simp) _).setCell (by simp) _).setCell (by simp) _)
      have y0 : w9.cell? ⟨w.heap.size + 2, 0, none⟩ = some (.int .i64 0) := KZ.out.cell 0
      have y1 : w9.cell? ⟨w.heap.size + 2, 1, none⟩ = some (.slice none 0 0) := KZ.out.cell 1
      have y2 : w9.cell? ⟨w.heap.size + 2, 2, none⟩ = some (.slice none 0 0) := KZ.out.cell 2
      go_wp2_with fail
      refine bodyPost_ret (v := .tuple #[.agg #[.int .i64 0, .slice none 0 0, .slice none 0 0], .int .i64 0, .bool false, .int .i64 2]) (by simp [results, Try.results18, go_sem, y0, y1, y2]) rfl ?_
      rw [← HR2.out]
      exact RbOut.badK 2 BZ.out
    · have hv2 := HV.out
      rw [Bool.and_eq_true] at hv2
      obtain ⟨a1, a2, a3, a4, a5, a6, a7, a8, a9, a10⟩ := rwOk hv2.1 hv2.2
      have a11 := inB_t HB.out
      have HR2 := Lib.hid (show rbR sy (sy + st) q xs ys (rwAll sy.toNat (sy + st) 0 rs) bu.toNat = RR from HR.out)
      have HB2 := Lib.hid HB.out
      clear HV HB HR hv2
      obtain ⟨s, rfl⟩ := Int.eq_ofNat_of_zero_le (show 0 ≤ sy by omega)
      obtain ⟨B, rfl⟩ := Int.eq_ofNat_of_zero_le (show 0 ≤ bu by omega)
      rw [Int.toNat_natCast] at a10
      have HR3 := Lib.hid (show rbR s ((s : Int) + st) q xs ys (rwAll s ((s : Int) + st) 0 rs) B = RR by have := HR2.out; rw [Int.toNat_natCast, Int.toNat_natCast] at this; exact this)
      have A6 := Lib.hid a6; have A7 := Lib.hid a7; have A9 := Lib.hid a9; have A10 := Lib.hid a10
      have b4 : xn ≤ 200 := by have := HXL.out; omega
      have b5 : yn ≤ 200 := by have := HYL.out; omega
      have b8 : rn ≤ 10000 := by have := HL.out; omega
      have b1 : 2 ≤ s ∧ s ≤ 6 := by omega
      have b9 : B ≤ 100000 := by omega
      have m0 : w1.cell? ⟨w.heap.size, 0, none⟩ = some (.int .i64 s) := KM1.out.cell 0
      have m1 : w1.cell? ⟨w.heap.size, 1, none⟩ = some (.int .i64 st) := KM1.out.cell 1
      have m2 : w1.cell? ⟨w.heap.size, 2, none⟩ = some (.slice RA rn rc) := KM1.out.cell 2
      have c0 : w1.cell? ⟨w.heap.size + 1, 0, none⟩ = some (.int .i64 q) := KC1.out.cell 0
      have c1 : w1.cell? ⟨w.heap.size + 1, 1, none⟩ = some (.slice XA xn xc) := KC1.out.cell 1
      have c2 : w1.cell? ⟨w.heap.size + 1, 2, none⟩ = some (.slice YA yn yc) := KC1.out.cell 2
      clear a4 a5 a6 a7 a8 a9 a10 HR2
      go_wp2_with fail
      refine (budgetOkW_b B true HB2.out w1).mono ?_
      rintro e' w' ⟨rfl, rfl⟩
      go_wp2_with fail
      refine (runByRewrites_c s st ((s : Int) + st) q RA rn rc rs XA xn xc xs YA yn yc ys (rwAll s ((s : Int) + st) 0 rs) B RR w1 H1.out HX1.out HY1.out b1 rfl a2 b8 A9.out rfl A10.out b4 b5 a3 A6.out A7.out b9 HR3.out).mono ?_
      rintro e' w2 ⟨A, n, c, A', n', c', rfl, hWS, hbd, hb2⟩
      have E2 := Lib.hid (below_chain E1.out E1.out.size hb2)
      have KR2 := Lib.hid (KR1.out.keep hb2)
      have hz1 : w.heap.size + 2 < w1.heap.size := KR1.out.lt
      have WS := Lib.hid hWS; have HZ2 := Lib.hid hb2.size
      clear hWS hb2 m0 m1 m2 c0 c1 c2 r0 r1 r2 f0 f1 f2
      have r0 : w2.cell? ⟨w.heap.size + 2, 0, none⟩ = some (.int .i64 0) := KR2.out.cell 0
      have r1 : w2.cell? ⟨w.heap.size + 2, 1, none⟩ = some (.slice none 0 0) := KR2.out.cell 1
      have r2 : w2.cell? ⟨w.heap.size + 2, 2, none⟩ = some (.slice none 0 0) := KR2.out.cell 2
      have f0 := KR2.out.frozen 0; have f1 := KR2.out.frozen 1; have f2 := KR2.out.frozen 2
      obtain ⟨⟨q2, L, M⟩, k, z, cd⟩ := RR
      simp only at hbd WS ⊢
      obtain ⟨w9, hw9⟩ : ∃ w9, ((w2.setCell ⟨w.heap.size + 2, 0, none⟩ (.int .i64 q2)).setCell ⟨w.heap.size + 2, 1, none⟩ (.slice A n c)).setCell ⟨w.heap.size + 2, 2, none⟩ (.slice A' n' c') = w9 := ⟨_, rfl⟩
      have KZ := Lib.hid (show Blk w9 (w.heap.size + 2) 30 #[.int .i64 q2, .slice A n c, .slice A' n' c'] by rw [← hw9]; exact (((KR2.out.set_ 0 _).set_ 1 _).set_ 2 _))
      have BZ := Lib.hid (show Below w.heap.size w w9 by rw [← hw9]; exact ((E2.out.setCell (by simp) _).setCell (by simp) _).setCell (by simp) _)
      have WS9 := Lib.hid (show WrS w9 w.heap.size w9.heap.size ([sgI A n L] ++ [sgI A' n' M]) by
        have hs9 : w9.heap.size = w2.heap.size := by rw [← hw9]; simp
        rw [hs9, ← hw9]
        exact (((WS.out.set_far (p := ⟨w.heap.size + 2, 0, none⟩) (.inl hz1) _).set_far (p := ⟨w.heap.size + 2, 1, none⟩) (.inl hz1) _).set_far (p := ⟨w.heap.size + 2, 2, none⟩) (.inl hz1) _).wider E1.out.size (Nat.le_refl _))
      have y0 : w9.cell? ⟨w.heap.size + 2, 0, none⟩ = some (.int .i64 q2) := KZ.out.cell 0
      have y1 : w9.cell? ⟨w.heap.size + 2, 1, none⟩ = some (.slice A n c) := KZ.out.cell 1
      have y2 : w9.cell? ⟨w.heap.size + 2, 2, none⟩ = some (.slice A' n' c') := KZ.out.cell 2
      go_wp2_with fail
      refine bodyPost_ret (v := .tuple #[.agg #[.int .i64 q2, .slice A n c, .slice A' n' c'], .int .i64 k, .bool z, .int .i64 cd]) (by simp [results, Try.results18, go_sem, y0, y1, y2]) rfl ?_
      exact ⟨A, n, c, A', n', c', rfl, WS9.out, hbd, BZ.out⟩

set_option maxHeartbeats 4000000 in
set_option maxRecDepth 100000 in
theorem iRunByMarkov0_c (sy st : Int) (RA : Option Addr) (rn rc : Nat) (rs : List Rule3) (q : Int) (XA : Option Addr) (xn xc : Nat) (xs : List Int) (YA : Option Addr) (yn yc : Nat) (ys : List Int) (bu : Int) (RR : RbT) (w : World) (h : Rd3 w RA rn rs) (hx : RdI w XA xn xs) (hy : RdI w YA yn ys) (hn : rn ≤ 1000000000) (hxn : xn ≤ 1000000000) (hyn : yn ≤ 1000000000) (hR : rbwR sy st rs q xs ys bu = RR) :
    Calls Try.prog 11 #[.agg #[.int .i64 sy, .int .i64 st, .slice RA rn rc], .agg #[.int .i64 q, .slice XA xn xc, .slice YA yn yc], .int .i64 bu] w (RbOut RR w) := by
  obtain ⟨w0, hw0⟩ : ∃ w0, ((w.alloc (.cells #[.int .i64 sy, .int .i64 st, .slice RA rn rc] 35)).alloc (.cells #[.int .i64 q, .slice XA xn xc, .slice YA yn yc] 30)).alloc (.cells #[.int .i64 0, .slice none 0 0, .slice none 0 0] 30) = w0 := ⟨_, rfl⟩
  have E0 := Lib.hid (show Below w.heap.size w w0 by rw [← hw0]; exact ((below_size.alloc (Nat.le_refl _) _).alloc (by simp) _).alloc (by simp; omega) _)
  have KM := Lib.hid (show Blk w0 w.heap.size 35 #[.int .i64 sy, .int .i64 st, .slice RA rn rc] by rw [← hw0]; exact ((Blk.new _ _ _).alloc _).alloc _)
  have KC := Lib.hid (show Blk w0 (w.heap.size + 1) 30 #[.int .i64 q, .slice XA xn xc, .slice YA yn yc] by rw [← hw0]; exact (blk_new2 _ _ _ _ (by simp)).alloc _)
  have KR := Lib.hid (show Blk w0 (w.heap.size + 2) 30 #[.int .i64 0, .slice none 0 0, .slice none 0 0] by rw [← hw0]; exact blk_new2 _ _ _ _ (by simp))
  have H := Lib.hid (Rd.below h E0.out); have HX := Lib.hid (RdI.below hx E0.out); have HY := Lib.hid (RdI.below hy E0.out)
  have HR := Lib.hid hR
  have m0 : w0.cell? ⟨w.heap.size, 0, none⟩ = some (.int .i64 sy) := KM.out.cell 0
  have m1 : w0.cell? ⟨w.heap.size, 1, none⟩ = some (.int .i64 st) := KM.out.cell 1
  have m2 : w0.cell? ⟨w.heap.size, 2, none⟩ = some (.slice RA rn rc) := KM.out.cell 2
  have c0 : w0.cell? ⟨w.heap.size + 1, 0, none⟩ = some (.int .i64 q) := KC.out.cell 0
  have c1 : w0.cell? ⟨w.heap.size + 1, 1, none⟩ = some (.slice XA xn xc) := KC.out.cell 1
  have c2 : w0.cell? ⟨w.heap.size + 1, 2, none⟩ = some (.slice YA yn yc) := KC.out.cell 2
  clear h hx hy hR
  go_enter Try.func11, Try.ntmps11
  go_wp2_with fail
  refine (iRunByRewrites0_c sy st RA rn rc rs q XA xn xc xs YA yn yc ys bu RR w0 H.out HX.out HY.out hn hxn hyn HR.out).mono ?_
  rintro e' w2 ⟨A, n, c, A', n', c', rfl, hWS, hbd, hb2⟩
  have E2 := Lib.hid (below_chain E0.out E0.out.size hb2)
  have KR2 := Lib.hid (KR.out.keep hb2)
  have hz1 : w.heap.size + 2 < w0.heap.size := KR.out.lt
  have WS := Lib.hid hWS
  clear hWS hb2 m0 m1 m2 c0 c1 c2 hw0
  have r0 : w2.cell? ⟨w.heap.size + 2, 0, none⟩ = some (.int .i64 0) := KR2.out.cell 0
  have r1 : w2.cell? ⟨w.heap.size + 2, 1, none⟩ = some (.slice none 0 0) := KR2.out.cell 1
  have r2 : w2.cell? ⟨w.heap.size + 2, 2, none⟩ = some (.slice none 0 0) := KR2.out.cell 2
  have f0 := KR2.out.frozen 0; have f1 := KR2.out.frozen 1; have f2 := KR2.out.frozen 2
  obtain ⟨⟨q2, L, M⟩, k, z, cd⟩ := RR
  simp only at hbd WS ⊢
  obtain ⟨w9, hw9⟩ : ∃ w9, ((w2.setCell ⟨w.heap.size + 2, 0, none⟩ (.int .i64 q2)).setCell ⟨w.heap.size + 2, 1, none⟩ (.slice A n c)).setCell ⟨w.heap.size + 2, 2, none⟩ (.slice A' n' c') = w9 := ⟨_, rfl⟩
  have KZ := Lib.hid (show Blk w9 (w.heap.size + 2) 30 #[.int .i64 q2, .slice A n c, .slice A' n' c'] by rw [← hw9]; exact (((KR2.out.set_ 0 _).set_ 1 _).set_ 2 _))
  have BZ := Lib.hid (show Below w.heap.size w w9 by rw [← hw9]; exact ((E2.out.setCell (by simp) _).setCell (by simp) _).setCell (by simp) _)
  have WS9 := Lib.hid (show WrS w9 w.heap.size w9.heap.size ([sgI A n L] ++ [sgI A' n' M]) by
    have hs9 : w9.heap.size = w2.heap.size := by rw [← hw9]; simp
    rw [hs9, ← hw9]
    exact (((WS.out.set_far (p := ⟨w.heap.size + 2, 0, none⟩) (.inl hz1) _).set_far (p := ⟨w.heap.size + 2, 1, none⟩) (.inl hz1) _).set_far (p := ⟨w.heap.size + 2, 2, none⟩) (.inl hz1) _).wider E0.out.size (Nat.le_refl _))
  have y0 : w9.cell? ⟨w.heap.size + 2, 0, none⟩ = some (.int .i64 q2) := KZ.out.cell 0
  have y1 : w9.cell? ⟨w.heap.size + 2, 1, none⟩ = some (.slice A n c) := KZ.out.cell 1
  have y2 : w9.cell? ⟨w.heap.size + 2, 2, none⟩ = some (.slice A' n' c') := KZ.out.cell 2
  go_wp2_with fail
  refine bodyPost_ret (v := .tuple #[.agg #[.int .i64 q2, .slice A n c, .slice A' n' c'], .int .i64 k, .bool z, .int .i64 cd]) (by simp [results, Try.results11, go_sem, y0, y1, y2]) rfl ?_
  exact ⟨A, n, c, A', n', c', rfl, WS9.out, hbd, BZ.out⟩
end Go.Proofs.Ytcbcjhfeidkeaaa
