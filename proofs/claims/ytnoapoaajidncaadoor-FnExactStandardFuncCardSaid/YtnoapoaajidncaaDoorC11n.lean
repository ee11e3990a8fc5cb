/-
  Reading functions: the program's reader (function; composition is given).
-/
import Derived.Test.YtnoapoaajidncaaDoorC11j
import Derived.Test.YtnoapoaajidncaaDoorConcat
import Derived.Test.YtnoapoaajidncaaDoorOwnS
import Derived.Test.YtnoapoaajidncaaDoorMixV
namespace Go.Proofs.YtnoapoaajidncaaDoor
open Go.RowKit
open FTr

theorem KeepR.thenF {lo hi B : Nat} {a b c : World} (h : KeepR lo hi a b) (k : Below B b c) (hB : a.heap.size ≤ B) : KeepR lo hi a c :=
  ⟨k.os.trans h.os, k.tape.trans h.tape, k.output.trans h.output, Nat.le_trans h.size k.size, fun i hi hx => (k.block i (by omega)).trans (h.block i hi hx)⟩
theorem one_tri (xs : List Nd3) : ∀ u ∈ xs.flatMap enc3, u.oneCell' = true := by
  intro u hu
  obtain ⟨y, _, hy⟩ := List.mem_flatMap.1 hu
  simp only [enc3, List.mem_cons, List.not_mem_nil, or_false] at hy
  rcases hy with rfl | rfl | rfl <;> rfl
/-- a function that the reader gives, in memory of the call's own -/
def FxOut (g L : Nat) (q : List Nd3 × RdSt) (w : World) (e : Ending) (w' : World) : Prop := ∃ A n c, e = .returned (.slice A n c) ∧ Wr w' w.heap.size w'.heap.size A (n * 3) (q.1.flatMap enc3) ∧ n ≤ c ∧ FrS g L q.2 w' ∧ KeepR g (g + 1) w w'
theorem FxOut.leaf {g L : Nat} {a b c : Int} {st : RdSt} {w w' : World} {T : TypeId} (hs : FrS g L st w') (hk : KeepR g (g + 1) w w') : FxOut g L ([(a, b, c)], st) w (.returned (.slice (some ⟨w'.heap.size, 0, none⟩) 1 1)) (w'.alloc (.cells #[i64 a, i64 b, i64 c] T)) :=
  ⟨_, 1, 1, rfl, (Blk.new w' T #[i64 a, i64 b, i64 c]).wr hk.size (by simp) rfl (by simp), Nat.le_refl _, hs.alloc _, hk.thenF (below_size.alloc (Nat.le_refl _) _) hk.size⟩
set_option maxHeartbeats 1000000 in
set_option maxRecDepth 100000 in
theorem takeNo_c (g L : Nat) (st : RdSt) (p : List UInt8) (pv : ByteArray) (hp : pv = bs p) (w : World) (h : FrS g L st w) (hq : tkB p st.1 = false) : Calls Tryd.prog 21 #[.pointer (some ⟨g, 0, none⟩), .string pv] w fun e w' => e = .returned (.bool false) ∧ w = w' := by
  subst hp
  obtain ⟨s, b⟩ := st
  have c0 : w.cell? ⟨g, 0, none⟩ = some (.string (bs s)) := h.blk.cell 0
  have f0 := h.blk.frozen 0
  simp only at hq
  have HC := Lib.hid (show ∀ w, Calls Tryd.prog 35 #[.string (bs s), .string (bs p)] w fun e w' => e = .returned (.tuple #[.string (bs (tkR p s)), .bool false]) ∧ w = w' from fun w => by
    have := cut_c s p w
    rw [hq] at this; exact this)
  clear h hq
  go_enter Tryd.func21, Tryd.ntmps21
  go_wp2_with (go_at_call 35; refine (HC.out _).mono ?_; rintro e w' ⟨rfl, rfl⟩)
  go_ret
  exact ⟨rfl, rfl⟩
theorem takeYes_c (g L : Nat) (s : List UInt8) (b : Bool) (p : List UInt8) (s2 : List UInt8) (pv : ByteArray) (hp : pv = bs p) (w : World) (h : FrS g L (s, b) w) (hq : tkB p s = true) (h2 : s.drop p.length = s2) : Calls Tryd.prog 21 #[.pointer (some ⟨g, 0, none⟩), .string pv] w fun e w' => e = .returned (.bool true) ∧ FrS g L (s2, b) w' ∧ KeepR g (g + 1) w w' := by
  have := takeF_c g L (s, b) p pv hp w h
  simp only at this
  rw [hq, tkR, if_pos hq, h2] at this
  exact this
/-- what is known of the reader below a number of nodes -/
def RdrK (g L N : Nat) : Prop := ∀ (st : RdSt) (w : World), FrS g L st w → st.1.length < N → Calls Tryd.prog 13 #[.pointer (some ⟨g, 0, none⟩)] w (FxOut g L (ixF N st) w)
def CmpK (g L N : Nat) : Prop := ∀ (st : RdSt) (w : World), FrS g L st w → st.1.length < N → Calls Tryd.prog 24 #[.pointer (some ⟨g, 0, none⟩)] w (FxOut g L (ixC0 (ixF N) st) w)
set_option maxHeartbeats 4000000 in
set_option maxRecDepth 100000 in
theorem function1_c (g L N : Nat) (hN3 : N ≤ 3000) (IH : RdrK g L N) (IC : CmpK g L N) : RdrK g L (N + 1) := by
  rintro ⟨s, b⟩ w h hN
  simp only at hN
  have S0 := Lib.hid h
  have HIH := Lib.hid IH; have HIC := Lib.hid IC
  have c1 : w.cell? ⟨g, 1, none⟩ = some (.bool b) := h.blk.cell 1
  have f1 := h.blk.frozen 1
  have hgL := h.glt; have hLw := h.llt
  clear h IH IC
  cases b
  case true =>
    have HG := Lib.hid (show ixF (N + 1) (s, true) = ([(0, 0, 0)], (s, true)) by rw [ixF, if_pos rfl])
    go_enter Tryd.func13, Tryd.ntmps13
    go_wp2_with fail
    go_ret
    rw [HG.out]
    exact FxOut.leaf S0.out (KeepR.refl _ _ _)
  by_cases q1 : tkB [90] s = true
  · obtain ⟨s2, hs2⟩ : ∃ s2, s.drop 1 = s2 := ⟨_, rfl⟩
    obtain ⟨⟨v, st3⟩, hd⟩ : ∃ r, dgF (s2, false) = r := ⟨_, rfl⟩
    have HG := Lib.hid (show ixF (N + 1) (s, false) = ([(0, v, 0)], st3) by rw [ixF, if_neg (by simp), if_pos q1, ixZ0]; simp only [hs2, hd])
    have HD := Lib.hid hd; have HQ := Lib.hid q1; have HS := Lib.hid hs2
    clear hd q1 hs2
    go_enter Tryd.func13, Tryd.ntmps13
    go_wp2_with fail
    refine (takeYes_c g L s false [90] s2 _ (by rfl) w S0.out HQ.out HS.out).mono ?_
    rintro e w1 ⟨rfl, hs1, hk1⟩
    have S1 := Lib.hid hs1; have K1 := Lib.hid hk1
    clear hs1 hk1
    go_wp2_with fail
    refine (digitF_c g L (s2, false) w1 S1.out).mono ?_
    rw [HD.out]
    rintro e w2 ⟨rfl, hs3, hk3⟩
    have S2 := Lib.hid hs3; have K2 := Lib.hid hk3
    clear hs3 hk3
    go_wp2_with fail
    go_ret
    rw [HG.out]
    exact FxOut.leaf S2.out (K1.out.trans K2.out)
  have N1 := Lib.hid (show tkB [90] s = false by simpa using q1)
  by_cases q2 : tkB [83] s = true
  · obtain ⟨s2, hs2⟩ : ∃ s2, s.drop 1 = s2 := ⟨_, rfl⟩
    have HG := Lib.hid (show ixF (N + 1) (s, false) = ([(1, 1, 0)], (s2, false)) by rw [ixF, if_neg (by simp), if_neg q1, if_pos q2]; simp only [hs2])
    have HQ := Lib.hid q2; have HS := Lib.hid hs2
    clear q1 q2 hs2
    go_enter Tryd.func13, Tryd.ntmps13
    go_wp2_with fail
    refine (takeNo_c g L (s, false) [90] _ (by rfl) w S0.out N1.out).mono ?_
    rintro e w' ⟨rfl, rfl⟩
    go_wp2_with fail
    refine (takeYes_c g L s false [83] s2 _ (by rfl) w S0.out HQ.out HS.out).mono ?_
    rintro e w1 ⟨rfl, hs1, hk1⟩
    have S1 := Lib.hid hs1; have K1 := Lib.hid hk1
    clear hs1 hk1
    go_wp2_with fail
    go_ret
    rw [HG.out]
    exact FxOut.leaf S1.out K1.out
  have N2 := Lib.hid (show tkB [83] s = false by simpa using q2)
  by_cases q3 : tkB [80] s = true
  · obtain ⟨s2, hs2⟩ : ∃ s2, s.drop 1 = s2 := ⟨_, rfl⟩
    obtain ⟨⟨v, st3⟩, hd⟩ : ∃ r, dgF (s2, false) = r := ⟨_, rfl⟩
    obtain ⟨⟨u, st5⟩, hd5⟩ : ∃ r, dgF (ndF [46] st3) = r := ⟨_, rfl⟩
    have HG := Lib.hid (show ixF (N + 1) (s, false) = ([(2, v, u)], st5) by rw [ixF, if_neg (by simp), if_neg q1, if_neg q2, if_pos q3, ixK0]; simp only [hs2, hd, hd5])
    have HD := Lib.hid hd; have HQ := Lib.hid q3; have HS := Lib.hid hs2; have HD5 := Lib.hid hd5
    clear q1 q2 q3 hs2 hd hd5
    go_enter Tryd.func13, Tryd.ntmps13
    go_wp2_with fail
    refine (takeNo_c g L (s, false) [90] _ (by rfl) w S0.out N1.out).mono ?_
    rintro e w' ⟨rfl, rfl⟩
    go_wp2_with fail
    refine (takeNo_c g L (s, false) [83] _ (by rfl) w S0.out N2.out).mono ?_
    rintro e w' ⟨rfl, rfl⟩
    go_wp2_with fail
    refine (takeYes_c g L s false [80] s2 _ (by rfl) w S0.out HQ.out HS.out).mono ?_
    rintro e w1 ⟨rfl, hs1, hk1⟩
    have S1 := Lib.hid hs1; have K1 := Lib.hid hk1
    clear hs1 hk1
    go_wp2_with fail
    refine (digitF_c g L (s2, false) w1 S1.out).mono ?_
    rw [HD.out]
    rintro e w2 ⟨rfl, hs3, hk3⟩
    have S2 := Lib.hid hs3; have K2 := Lib.hid hk3
    clear hs3 hk3
    obtain ⟨wx, hwx⟩ : ∃ wx, w2.alloc (.cells #[i64 0, i64 0, i64 0] 37) = wx := ⟨_, rfl⟩
    have EX := Lib.hid (show Below w2.heap.size w2 wx by rw [← hwx]; exact below_size.alloc (Nat.le_refl _) _)
    have BX := Lib.hid (show Blk wx w2.heap.size 37 #[i64 0, i64 0, i64 0] by rw [← hwx]; exact Blk.new _ _ _)
    have m0 := BX.out.cell 0; have m1 := BX.out.cell 1; have m2 := BX.out.cell 2
    have n0 := BX.out.frozen 0; have n1 := BX.out.frozen 1; have n2 := BX.out.frozen 2
    simp at m0 m1 m2
    obtain ⟨w3, hw3⟩ : ∃ w3, ((wx.setCell ⟨w2.heap.size, 0, none⟩ (i64 2)).setCell ⟨w2.heap.size, 1, none⟩ (i64 v)).setCell ⟨w2.heap.size, 2, none⟩ (i64 0) = w3 := ⟨_, rfl⟩
    have E3 := Lib.hid (show Below w2.heap.size w2 w3 by rw [← hw3]; exact ((EX.out.setCell (Nat.le_refl _) _).setCell (Nat.le_refl _) _).setCell (Nat.le_refl _) _)
    have B3 := Lib.hid (show Blk w3 w2.heap.size 37 #[i64 2, i64 v, i64 0] by rw [← hw3]; exact ((BX.out.set_ 0 _).set_ 1 _).set_ 2 _)
    have hz2 := K2.out.size; have hz1 := K1.out.size
    have hg2 : w2.heap.size ≠ g := by omega
    have S3 := Lib.hid (S2.out.belowB E3.out (by omega))
    have K3 := Lib.hid ((K1.out.trans K2.out).thenF E3.out (by omega))
    clear K2
    go_wp2_with fail
    clear m0 m1 m2 n0 n1 n2
    refine (needF_c g L st3 [46] _ (by rfl) w3 S3.out).mono ?_
    rintro e w4 ⟨rfl, hs4, hk4⟩
    have S4 := Lib.hid hs4; have K4 := Lib.hid (K3.out.trans hk4)
    have B4 := Lib.hid (Blk.of_block (hk4.block _ B3.out.lt (by omega)) B3.out)
    clear hs4 hk4
    go_wp2_with fail
    refine (digitF_c g L (ndF [46] st3) w4 S4.out).mono ?_
    rw [HD5.out]
    rintro e w5 ⟨rfl, hs5, hk5⟩
    have S5 := Lib.hid hs5; have K5 := Lib.hid (K4.out.trans hk5)
    have B5 := Lib.hid (Blk.of_block (hk5.block _ B4.out.lt (by omega)) B4.out)
    clear hs5 hk5
    have e2 := B5.out.cell 2; have f2 := B5.out.frozen 2
    simp at e2
    obtain ⟨w6, hw6⟩ : ∃ w6, w5.setCell ⟨w2.heap.size, 2, none⟩ (i64 u) = w6 := ⟨_, rfl⟩
    have E6 := Lib.hid (show Below w2.heap.size w5 w6 by rw [← hw6]; exact Below.setCell (Below.refl w2.heap.size w5) (show w2.heap.size ≤ (⟨w2.heap.size, 2, none⟩ : Addr).block from Nat.le_refl _) _)
    have B6 := Lib.hid (show Blk w6 w2.heap.size 37 #[i64 2, i64 v, i64 u] by rw [← hw6]; exact B5.out.set_ 2 _)
    have S6 := Lib.hid (S5.out.belowB E6.out (by omega))
    have K6 := Lib.hid (K5.out.thenF E6.out (by omega))
    have d0 := B6.out.cell 0; have d1 := B6.out.cell 1; have d2 := B6.out.cell 2
    simp at d0 d1 d2
    go_wp2_with fail
    go_ret
    rw [HG.out]
    exact FxOut.leaf S6.out K6.out
  have N3 := Lib.hid (show tkB [80] s = false by simpa using q3)
  by_cases q4 : tkB [67, 40] s = true
  · obtain ⟨s2, hs2⟩ : ∃ s2, s.drop 2 = s2 := ⟨_, rfl⟩
    have hl2 : s2.length < N := by have := tkB_len q4; rw [← hs2, List.length_drop]; simp only [List.length_cons, List.length_nil] at this; omega
    have HG := Lib.hid (show ixF (N + 1) (s, false) = ixC0 (ixF N) (s2, false) by rw [ixF, if_neg (by simp), if_neg q1, if_neg q2, if_neg q3, if_pos q4]; simp only [hs2])
    have HQ := Lib.hid q4; have HS := Lib.hid hs2
    clear q1 q2 q3 q4 hs2
    go_enter Tryd.func13, Tryd.ntmps13
    go_wp2_with fail
    refine (takeNo_c g L (s, false) [90] _ (by rfl) w S0.out N1.out).mono ?_
    rintro e w' ⟨rfl, rfl⟩
    go_wp2_with fail
    refine (takeNo_c g L (s, false) [83] _ (by rfl) w S0.out N2.out).mono ?_
    rintro e w' ⟨rfl, rfl⟩
    go_wp2_with fail
    refine (takeNo_c g L (s, false) [80] _ (by rfl) w S0.out N3.out).mono ?_
    rintro e w' ⟨rfl, rfl⟩
    go_wp2_with fail
    refine (takeYes_c g L s false [67, 40] s2 _ (by rfl) w S0.out HQ.out HS.out).mono ?_
    rintro e w1 ⟨rfl, hs1, hk1⟩
    have S1 := Lib.hid hs1; have K1 := Lib.hid hk1
    clear hs1 hk1
    go_wp2_with fail
    refine (HIC.out (s2, false) w1 S1.out hl2).mono ?_
    rintro e w2 ⟨A, n, c, rfl, hw2, hc2, hs2, hk2⟩
    have W2 := Lib.hid hw2; have S2 := Lib.hid hs2; have K2 := Lib.hid hk2
    clear hw2 hs2 hk2
    go_wp2_with fail
    go_ret
    rw [HG.out]
    exact ⟨A, n, c, rfl, W2.out.wider K1.out.size (Nat.le_refl _), hc2, S2.out, K1.out.trans K2.out⟩
  have N4 := Lib.hid (show tkB [67, 40] s = false by simpa using q4)
  by_cases q5 : tkB [82, 40] s = true
  · obtain ⟨s2, hs2⟩ : ∃ s2, s.drop 2 = s2 := ⟨_, rfl⟩
    have hl2 : s2.length < N := by have := tkB_len q5; rw [← hs2, List.length_drop]; simp only [List.length_cons, List.length_nil] at this; omega
    obtain ⟨⟨xs, st3⟩, hx⟩ : ∃ r, ixF N (s2, false) = r := ⟨_, rfl⟩
    obtain ⟨st4, h4⟩ : ∃ r, ndF [59] st3 = r := ⟨_, rfl⟩
    obtain ⟨⟨ys, st5⟩, hy⟩ : ∃ r, ixF N st4 = r := ⟨_, rfl⟩
    have kx := ixF_ok N (s2, false); have ky := ixF_ok N st4
    rw [hx] at kx; rw [hy] at ky
    have hl3 := kx.rest; have hl4 := ndF_len [59] st3
    rw [h4] at hl4
    have kxl := kx.len; have kyl := ky.len; have kxh := kx.hd
    simp only at hl3 kxl kyl kxh
    have HNE := Lib.hid (show xs ≠ [] from kx.pos)
    have hs20 : s.length ≤ 2000 := S0.out.len
    have HG := Lib.hid (show ixF (N + 1) (s, false) = ((4, hdA xs + 1, 0) :: (xs ++ ys), ndF [41] st5) by rw [ixF, if_neg (by simp), if_neg q1, if_neg q2, if_neg q3, if_neg q4, if_pos q5, ixR0]; simp only [hs2, hx, h4, hy])
    have HQ := Lib.hid q5; have HS := Lib.hid hs2; have HX := Lib.hid hx; have H4 := Lib.hid h4; have HY := Lib.hid hy
    clear q1 q2 q3 q4 q5 hs2 hx h4 hy kx ky
    obtain ⟨a, ha⟩ : ∃ a, hdA xs = a := ⟨_, rfl⟩
    rw [ha] at kxh HG
    have HA := Lib.hid ha; clear ha
    have va : IntKind.i64.wrap (a + 1) = a + 1 := IntWalk.i64_in _ (by omega)
    go_enter Tryd.func13, Tryd.ntmps13
    go_wp2_with fail
    refine (takeNo_c g L (s, false) [90] _ (by rfl) w S0.out N1.out).mono ?_
    rintro e w' ⟨rfl, rfl⟩
    go_wp2_with fail
    refine (takeNo_c g L (s, false) [83] _ (by rfl) w S0.out N2.out).mono ?_
    rintro e w' ⟨rfl, rfl⟩
    go_wp2_with fail
    refine (takeNo_c g L (s, false) [80] _ (by rfl) w S0.out N3.out).mono ?_
    rintro e w' ⟨rfl, rfl⟩
    go_wp2_with fail
    refine (takeNo_c g L (s, false) [67, 40] _ (by rfl) w S0.out N4.out).mono ?_
    rintro e w' ⟨rfl, rfl⟩
    go_wp2_with fail
    refine (takeYes_c g L s false [82, 40] s2 _ (by rfl) w S0.out HQ.out HS.out).mono ?_
    rintro e w1 ⟨rfl, hs1, hk1⟩
    have S1 := Lib.hid hs1; have K1 := Lib.hid hk1
    clear hs1 hk1
    go_wp2_with fail
    refine (HIH.out (s2, false) w1 S1.out hl2).mono ?_
    rw [HX.out]
    rintro e w2 ⟨A2, n2, c2, rfl, hw2, hc2, hs2, hk2⟩
    have W2 := Lib.hid hw2; have S2 := Lib.hid hs2; have K2 := Lib.hid (K1.out.trans hk2); have z1 := K1.out.size; have z2 := hk2.size
    clear hw2 hs2 hk2
    go_wp2_with fail
    refine (needF_c g L st3 [59] _ (by rfl) w2 S2.out).mono ?_
    rw [H4.out]
    rintro e w3 ⟨rfl, hs3, hk3⟩
    have S3 := Lib.hid hs3; have K3 := Lib.hid (K2.out.trans hk3); have z3 := hk3.size
    have W3 := Lib.hid (W2.out.keep hk3 (.inr (by omega)))
    clear hs3 hk3
    go_wp2_with fail
    refine (HIH.out st4 w3 S3.out (by omega)).mono ?_
    rw [HY.out]
    rintro e w4 ⟨A4, n4, c4, rfl, hw4, hc4, hs4, hk4⟩
    have V4 := Lib.hid hw4; have S4 := Lib.hid hs4; have K4 := Lib.hid (K3.out.trans hk4); have z4 := hk4.size
    have W4 := Lib.hid (W3.out.keep hk4 (.inr (by omega)))
    clear hw4 hs4 hk4
    go_wp2_with fail
    refine (needF_c g L st5 [41] _ (by rfl) w4 S4.out).mono ?_
    rintro e w6 ⟨rfl, hs6, hk6⟩
    have S6 := Lib.hid hs6; have K6 := Lib.hid (K4.out.trans hk6); have z6 := hk6.size
    have W6 := Lib.hid (show Wr w6 w1.heap.size w2.heap.size A2 (n2 * 3) (xs.flatMap enc3) from W4.out.keep hk6 (.inr (by omega)))
    have V6 := Lib.hid (show Wr w6 w3.heap.size w4.heap.size A4 (n4 * 3) (ys.flatMap enc3) from V4.out.keep hk6 (.inr (by omega)))
    clear hs6 hk6
    have hn2 : xs.length = n2 := Rd3.len W6.out.rd
    have hn4 : ys.length = n4 := Rd3.len V6.out.rd
    have hn0 : 0 < n2 := by have := List.length_pos_iff.2 HNE.out; omega
    obtain ⟨ad2, rfl, _⟩ := W6.out.rd.2 (by omega)
    have hcd : w6.cell? ⟨ad2.block, ad2.off + 1, none⟩ = some (i64 a) := by rw [← HA.out]; exact hd_cell W6.out.rd hn0
    obtain ⟨w8, hw8⟩ : ∃ w8, (w6.alloc (.cells #[i64 4, i64 (a + 1), i64 0] 37)).alloc (.cells #[.slice (some ⟨w6.heap.size, 0, none⟩) 1 1, .slice (some ad2) n2 c2, .slice A4 n4 c4] 22) = w8 := ⟨_, rfl⟩
    have E8 := Lib.hid (show Below w6.heap.size w6 w8 by rw [← hw8]; exact (below_size.alloc (Nat.le_refl _) _).alloc (by simp) _)
    have B7 := Lib.hid (show Blk w8 w6.heap.size 37 #[i64 4, i64 (a + 1), i64 0] by rw [← hw8]; exact (Blk.new _ _ _).alloc _)
    have B8 := Lib.hid (show Blk w8 (w6.heap.size + 1) 22 #[.slice (some ⟨w6.heap.size, 0, none⟩) 1 1, .slice (some ad2) n2 c2, .slice A4 n4 c4] by
      rw [← hw8]
      have hz : (w6.alloc (.cells #[i64 4, i64 (a + 1), i64 0] 37)).heap.size = w6.heap.size + 1 := by simp
      rw [← hz]; exact Blk.new _ _ _)
    have hz8 := E8.out.size
    go_wp2_with (go_at_call 25; refine (concatFunc_c _ 3 3 [⟨some ⟨w6.heap.size, 0, none⟩, 1, 1, [i64 4, i64 (a + 1), i64 0]⟩, ⟨some ad2, n2, c2, xs.flatMap enc3⟩, ⟨A4, n4, c4, ys.flatMap enc3⟩] w8 ⟨B8.out.rd (n := 3) rfl (by simp), (by
        intro t ht
        simp only [List.mem_cons, List.not_mem_nil, or_false] at ht
        rcases ht with rfl | rfl | rfl
        · exact B7.out.rd (n := 3) rfl (by simp)
        · exact W6.out.rd.below E8.out
        · exact V6.out.rd.below E8.out), (by
        intro t ht u hu
        simp only [List.mem_cons, List.not_mem_nil, or_false] at ht
        rcases ht with rfl | rfl | rfl
        · simp only [List.mem_cons, List.not_mem_nil, or_false] at hu; rcases hu with rfl | rfl | rfl <;> rfl
        · exact one_tri xs u hu
        · exact one_tri ys u hu)⟩ (by omega) (by simp [sumV]; omega)).mono ?_; rintro e w9 ⟨A9, c9, rfl, hw9, hc9, hb9⟩)
    go_ret
    rw [HG.out]
    refine ⟨A9, _, c9, rfl, ?_, hc9, (S6.out.belowB E8.out (by omega)).belowB hb9 (by omega), (K6.out.thenF E8.out (by omega)).thenF hb9 (by omega)⟩
    have h9 := hw9.wider (lo' := w.heap.size) (by omega) (Nat.le_refl _)
    simp only [List.flatMap_cons, List.flatMap_nil, List.append_nil] at h9
    rw [List.flatMap_cons, List.flatMap_append]
    exact h9
  have N5 := Lib.hid (show tkB [82, 40] s = false by simpa using q5)
  by_cases q6 : tkB [77, 40] s = true
  · obtain ⟨s2, hs2⟩ : ∃ s2, s.drop 2 = s2 := ⟨_, rfl⟩
    have hl2 : s2.length < N := by have := tkB_len q6; rw [← hs2, List.length_drop]; simp only [List.length_cons, List.length_nil] at this; omega
    obtain ⟨⟨xs, st3⟩, hx⟩ : ∃ r, ixF N (s2, false) = r := ⟨_, rfl⟩
    have kx := ixF_ok N (s2, false)
    rw [hx] at kx
    have kxl := kx.len; have kxh := kx.hd
    simp only at kxl kxh
    have HNE := Lib.hid (show xs ≠ [] from kx.pos)
    have hs20 : s.length ≤ 2000 := S0.out.len
    have HG := Lib.hid (show ixF (N + 1) (s, false) = ((5, hdA xs - 1, 0) :: xs, ndF [41] st3) by rw [ixF, if_neg (by simp), if_neg q1, if_neg q2, if_neg q3, if_neg q4, if_neg q5, if_pos q6, ixM0]; simp only [hs2, hx])
    have HQ := Lib.hid q6; have HS := Lib.hid hs2; have HX := Lib.hid hx
    clear q1 q2 q3 q4 q5 q6 hs2 hx kx
    obtain ⟨a, ha⟩ : ∃ a, hdA xs = a := ⟨_, rfl⟩
    rw [ha] at kxh HG
    have HA := Lib.hid ha; clear ha
    have va : IntKind.i64.wrap (a - 1) = a - 1 := IntWalk.i64_in _ (by omega)
    go_enter Tryd.func13, Tryd.ntmps13
    go_wp2_with fail
    refine (takeNo_c g L (s, false) [90] _ (by rfl) w S0.out N1.out).mono ?_
    rintro e w' ⟨rfl, rfl⟩
    go_wp2_with fail
    refine (takeNo_c g L (s, false) [83] _ (by rfl) w S0.out N2.out).mono ?_
    rintro e w' ⟨rfl, rfl⟩
    go_wp2_with fail
    refine (takeNo_c g L (s, false) [80] _ (by rfl) w S0.out N3.out).mono ?_
    rintro e w' ⟨rfl, rfl⟩
    go_wp2_with fail
    refine (takeNo_c g L (s, false) [67, 40] _ (by rfl) w S0.out N4.out).mono ?_
    rintro e w' ⟨rfl, rfl⟩
    go_wp2_with fail
    refine (takeNo_c g L (s, false) [82, 40] _ (by rfl) w S0.out N5.out).mono ?_
    rintro e w' ⟨rfl, rfl⟩
    go_wp2_with fail
    refine (takeYes_c g L s false [77, 40] s2 _ (by rfl) w S0.out HQ.out HS.out).mono ?_
    rintro e w1 ⟨rfl, hs1, hk1⟩
    have S1 := Lib.hid hs1; have K1 := Lib.hid hk1
    clear hs1 hk1
    go_wp2_with fail
    refine (HIH.out (s2, false) w1 S1.out hl2).mono ?_
    rw [HX.out]
    rintro e w2 ⟨A2, n2, c2, rfl, hw2, hc2, hs2, hk2⟩
    have W2 := Lib.hid hw2; have S2 := Lib.hid hs2; have K2 := Lib.hid (K1.out.trans hk2); have z1 := K1.out.size; have z2 := hk2.size
    clear hw2 hs2 hk2
    go_wp2_with fail
    refine (needF_c g L st3 [41] _ (by rfl) w2 S2.out).mono ?_
    rintro e w6 ⟨rfl, hs6, hk6⟩
    have S6 := Lib.hid hs6; have K6 := Lib.hid (K2.out.trans hk6); have z6 := hk6.size
    have W6 := Lib.hid (show Wr w6 w1.heap.size w2.heap.size A2 (n2 * 3) (xs.flatMap enc3) from W2.out.keep hk6 (.inr (by omega)))
    clear hs6 hk6
    have hn2 : xs.length = n2 := Rd3.len W6.out.rd
    have hn0 : 0 < n2 := by have := List.length_pos_iff.2 HNE.out; omega
    obtain ⟨ad2, rfl, _⟩ := W6.out.rd.2 (by omega)
    have hcd : w6.cell? ⟨ad2.block, ad2.off + 1, none⟩ = some (i64 a) := by rw [← HA.out]; exact hd_cell W6.out.rd hn0
    obtain ⟨w8, hw8⟩ : ∃ w8, (w6.alloc (.cells #[i64 5, i64 (a - 1), i64 0] 37)).alloc (.cells #[.slice (some ⟨w6.heap.size, 0, none⟩) 1 1, .slice (some ad2) n2 c2] 22) = w8 := ⟨_, rfl⟩
    have E8 := Lib.hid (show Below w6.heap.size w6 w8 by rw [← hw8]; exact (below_size.alloc (Nat.le_refl _) _).alloc (by simp) _)
    have B7 := Lib.hid (show Blk w8 w6.heap.size 37 #[i64 5, i64 (a - 1), i64 0] by rw [← hw8]; exact (Blk.new _ _ _).alloc _)
    have B8 := Lib.hid (show Blk w8 (w6.heap.size + 1) 22 #[.slice (some ⟨w6.heap.size, 0, none⟩) 1 1, .slice (some ad2) n2 c2] by
      rw [← hw8]
      have hz : (w6.alloc (.cells #[i64 5, i64 (a - 1), i64 0] 37)).heap.size = w6.heap.size + 1 := by simp
      rw [← hz]; exact Blk.new _ _ _)
    have hz8 := E8.out.size
    go_wp2_with (go_at_call 25; refine (concatFunc_c _ 2 2 [⟨some ⟨w6.heap.size, 0, none⟩, 1, 1, [i64 5, i64 (a - 1), i64 0]⟩, ⟨some ad2, n2, c2, xs.flatMap enc3⟩] w8 ⟨B8.out.rd (n := 2) rfl (by simp), (by
        intro t ht
        simp only [List.mem_cons, List.not_mem_nil, or_false] at ht
        rcases ht with rfl | rfl
        · exact B7.out.rd (n := 3) rfl (by simp)
        · exact W6.out.rd.below E8.out), (by
        intro t ht u hu
        simp only [List.mem_cons, List.not_mem_nil, or_false] at ht
        rcases ht with rfl | rfl
        · simp only [List.mem_cons, List.not_mem_nil, or_false] at hu; rcases hu with rfl | rfl | rfl <;> rfl
        · exact one_tri xs u hu)⟩ (by omega) (by simp [sumV]; omega)).mono ?_; rintro e w9 ⟨A9, c9, rfl, hw9, hc9, hb9⟩)
    go_ret
    rw [HG.out]
    refine ⟨A9, _, c9, rfl, ?_, hc9, (S6.out.belowB E8.out (by omega)).belowB hb9 (by omega), (K6.out.thenF E8.out (by omega)).thenF hb9 (by omega)⟩
    have h9 := hw9.wider (lo' := w.heap.size) (by omega) (Nat.le_refl _)
    simp only [List.flatMap_cons, List.flatMap_nil, List.append_nil] at h9
    rw [List.flatMap_cons]
    exact h9
  have N6 := Lib.hid (show tkB [77, 40] s = false by simpa using q6)
  have HG := Lib.hid (show ixF (N + 1) (s, false) = ([(0, 0, 0)], (s, true)) by rw [ixF, if_neg (by simp), if_neg q1, if_neg q2, if_neg q3, if_neg q4, if_neg q5, if_neg q6])
  clear q1 q2 q3 q4 q5 q6
  obtain ⟨w1, hw1⟩ : ∃ w1, w.setCell ⟨g, 1, none⟩ (.bool true) = w1 := ⟨_, rfl⟩
  have S1 := Lib.hid (show FrS g L (s, true) w1 by rw [← hw1]; exact S0.out.setBad true)
  have K1 := Lib.hid (show KeepR g (g + 1) w w1 by rw [← hw1]; exact keep_setF _)
  go_enter Tryd.func13, Tryd.ntmps13
  go_wp2_with fail
  refine (takeNo_c g L (s, false) [90] _ (by rfl) w S0.out N1.out).mono ?_
  rintro e w' ⟨rfl, rfl⟩
  go_wp2_with fail
  refine (takeNo_c g L (s, false) [83] _ (by rfl) w S0.out N2.out).mono ?_
  rintro e w' ⟨rfl, rfl⟩
  go_wp2_with fail
  refine (takeNo_c g L (s, false) [80] _ (by rfl) w S0.out N3.out).mono ?_
  rintro e w' ⟨rfl, rfl⟩
  go_wp2_with fail
  refine (takeNo_c g L (s, false) [67, 40] _ (by rfl) w S0.out N4.out).mono ?_
  rintro e w' ⟨rfl, rfl⟩
  go_wp2_with fail
  refine (takeNo_c g L (s, false) [82, 40] _ (by rfl) w S0.out N5.out).mono ?_
  rintro e w' ⟨rfl, rfl⟩
  go_wp2_with fail
  refine (takeNo_c g L (s, false) [77, 40] _ (by rfl) w S0.out N6.out).mono ?_
  rintro e w' ⟨rfl, rfl⟩
  go_wp2_with fail
  go_ret
  rw [HG.out]
  exact FxOut.leaf S1.out K1.out
end Go.Proofs.YtnoapoaajidncaaDoor
