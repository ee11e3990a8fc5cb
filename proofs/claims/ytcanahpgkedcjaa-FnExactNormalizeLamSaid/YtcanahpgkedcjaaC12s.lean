/-
  Contracts of chapter 12: shifting and reducing a lambda term, of the program.
-/
import Derived.Test.YtcanahpgkedcjaaC12r
namespace Go.Proofs.Ytcanahpgkedcjaa
open Go.RowKit

set_option maxHeartbeats 2000000 in
set_option maxRecDepth 100000 in
theorem shifted1_c (p q b : Nat) (x : Int × Int) (d : Nat) (w : World) (h0 : x.1 = 0) (hok : okL x = true) (hd : d ≤ 1000) (hb : b ≤ 1000) (hp : w.cell? ⟨p, 0, none⟩ = some (.int .i64 0)) (hq : w.cell? ⟨q, 0, none⟩ = some (.int .i64 b)) :
    Calls Try.prog 130 #[.agg #[.int .i64 x.1, .int .i64 x.2], .int .i64 d, .pointer (some ⟨p, 0, none⟩), .pointer (some ⟨q, 0, none⟩)] w fun e w' => ∃ A l c', e = .returned (.slice A l c') ∧ Rd2 w' A l [shE b x d] ∧ l ≤ 1 ∧ Below w.heap.size w w' := by
  have hx := okL_cases hok
  obtain ⟨x1, x2⟩ := x
  simp only at h0 hx
  subst h0
  have hx2 : 0 ≤ x2 ∧ x2 ≤ 399 := by omega
  obtain ⟨w5, hw5⟩ : ∃ w5, w.alloc (.cells #[.int .i64 0, .int .i64 x2] 62) = w5 := ⟨_, rfl⟩
  have E5 := Lib.hid (show Below w.heap.size w w5 by rw [← hw5]; exact below_size.alloc (Nat.le_refl _) _)
  have K5 := Lib.hid (show Blk w5 w.heap.size 62 #[.int .i64 0, .int .i64 x2] by rw [← hw5]; exact Blk.new _ _ _)
  have y0 : w5.cell? ⟨w.heap.size, 0, none⟩ = some (.int .i64 0) := K5.out.cell 0
  have y1 : w5.cell? ⟨w.heap.size, 1, none⟩ = some (.int .i64 x2) := K5.out.cell 1
  have f1 := K5.out.frozen 1
  have p5 := keepc E5.out hp; have q5 := keepc E5.out hq
  have hz5 := E5.out.size
  have v1 : IntKind.i64.wrap (x2 - (d : Int)) = x2 - (d : Int) := IntWalk.i64_in _ (by omega)
  have v2 : IntKind.i64.wrap (x2 + (b : Int)) = x2 + (b : Int) := IntWalk.i64_in _ (by omega)
  clear hok hx hp hq
  by_cases hc : (d : Int) ≤ x2
  · have g1 : decide ((0 : Int) ≤ x2 - (d : Int)) = true := by rw [decide_eq_true_eq]; omega
    have HS := Lib.hid (show shE b (0, x2) d = (0, x2 + b) by rw [shE, if_pos ⟨rfl, hc⟩])
    obtain ⟨w6, hw6⟩ : ∃ w6, w5.setCell ⟨w.heap.size, 1, none⟩ (.int .i64 (x2 + b)) = w6 := ⟨_, rfl⟩
    have K6 := Lib.hid (show Blk w6 w.heap.size 62 #[.int .i64 0, .int .i64 (x2 + b)] by rw [← hw6]; exact K5.out.set_ 1 _)
    have E6 := Lib.hid (show Below w.heap.size w w6 by rw [← hw6]; exact E5.out.setCell (Nat.le_refl _) _)
    have u0 : w6.cell? ⟨w.heap.size, 0, none⟩ = some (.int .i64 0) := K6.out.cell 0
    have u1 : w6.cell? ⟨w.heap.size, 1, none⟩ = some (.int .i64 (x2 + b)) := K6.out.cell 1
    go_enter Try.func130, Try.ntmps130
    go_wp2_with fail
    go_ret
    rw [HS.out]
    first | exact ⟨_, _, _, rfl, rd_new2 [(0, x2 + (b : Int))] _ rfl rfl, by omega, E6.out.alloc E6.out.size _⟩ | exact ⟨_, _, ⟨_, rfl⟩, rd_new2 [(0, x2 + (b : Int))] _ rfl rfl, by omega, E6.out.alloc E6.out.size _⟩
  · have g1 : decide ((0 : Int) ≤ x2 - (d : Int)) = false := by rw [decide_eq_false_iff_not]; omega
    have HS := Lib.hid (show shE b (0, x2) d = (0, x2) by rw [shE, if_neg (fun h => hc h.2)])
    go_enter Try.func130, Try.ntmps130
    go_wp2_with fail
    go_ret
    rw [HS.out]
    first | exact ⟨_, _, _, rfl, rd_new2 [(0, x2)] _ rfl rfl, by omega, E5.out.alloc hz5 _⟩ | exact ⟨_, _, ⟨_, rfl⟩, rd_new2 [(0, x2)] _ rfl rfl, by omega, E5.out.alloc hz5 _⟩
set_option maxHeartbeats 2000000 in
set_option maxRecDepth 100000 in
theorem shifted_c (ad : Addr) (n c : Nat) (t : List (Int × Int)) (b : Nat) (S : List (Int × Int)) (w : World) (h : Rd2 w (some ad) n t) (hab : ad.block < w.heap.size) (hn : n ≤ 999) (hok : ∀ x ∈ t, okL x = true) (hv : endP manyL t 1 = some t.length) (hb : b ≤ 1000) (hS : shiftL b t = S) :
    Calls Try.prog 104 #[.slice (some ad) n c, .int .i64 0, .int .i64 b] w fun e w' => ∃ A l c', e = .returned (.slice A l c') ∧ Rd2 w' A l S ∧ l ≤ n ∧ Below w.heap.size w w' := by
  obtain ⟨w2, hw2⟩ : ∃ w2, (w.alloc (.cells #[.int .i64 0] 2)).alloc (.cells #[.int .i64 b] 2) = w2 := ⟨_, rfl⟩
  have E2 := Lib.hid (show Below w.heap.size w w2 by rw [← hw2]; exact (below_size.alloc (Nat.le_refl _) _).alloc (by simp) _)
  have hz2 := E2.out.size
  have p2 := Lib.hid (show w2.cell? ⟨w.heap.size, 0, none⟩ = some (.int .i64 0) by rw [← hw2]; exact ((Blk.new w _ #[.int .i64 0]).alloc _).cell 0)
  have q2 := Lib.hid (show w2.cell? ⟨w.heap.size + 1, 0, none⟩ = some (.int .i64 b) by rw [← hw2]; exact (blk_newAt _ 2 #[.int .i64 b] (w.heap.size + 1) (by simp)).cell 0)
  have H := Lib.hid h; have HOK := Lib.hid hok; have HV := Lib.hid hv
  have HS := Lib.hid hS
  clear h hok hv hS
  go_enter Try.func104, Try.ntmps104
  go_wp2_with fail
  refine (mapVarsS_c (.pointer (some ⟨w.heap.size, 0, none⟩)) (.pointer (some ⟨w.heap.size + 1, 0, none⟩)) (fun x d => [shE b x d]) 1 ad n c t w2 (H.out.below E2.out) (by omega) hn (by omega) HOK.out HV.out ?_).mono ?_
  · intro x d wz h0 hox hd hbz
    exact shifted1_c w.heap.size (w.heap.size + 1) b x d wz h0 hox hd hb (keepc hbz p2.out) (keepc hbz q2.out)
  rintro e w3 ⟨A3, c3, rfl, hw3, hl3, hc3, hb3⟩
  have W3 := Lib.hid (show Rd2 w3 A3 _ (shiftL b t) from hw3.rd); have B3 := Lib.hid (below_chain E2.out hz2 hb3)
  have L3 := Lib.hid (show (shiftL b t).length ≤ n by have h1 := hl3; rw [Nat.mul_one] at h1; exact h1)
  clear hw3 hl3 hb3
  go_wp2_with fail
  go_ret
  rw [← HS.out]
  exact ⟨A3, _, c3, rfl, W3.out, L3.out, B3.out⟩
set_option maxHeartbeats 2000000 in
set_option maxRecDepth 100000 in
theorem reduced1_c (p : Nat) (aa : Addr) (m ca : Nat) (a : List (Int × Int)) (x : Int × Int) (d : Nat) (w : World) (h0 : x.1 = 0) (hok : okL x = true) (hd : d ≤ 1000) (hp : w.cell? ⟨p, 0, none⟩ = some (.slice (some aa) m ca)) (ha : Rd2 w (some aa) m a) (hab : aa.block < w.heap.size) (hm : m ≤ 999) (hoka : ∀ x ∈ a, okL x = true) (hva : endP manyL a 1 = some a.length) :
    Calls Try.prog 103 #[.agg #[.int .i64 x.1, .int .i64 x.2], .int .i64 d, .pointer (some ⟨p, 0, none⟩)] w fun e w' => ∃ A l c', e = .returned (.slice A l c') ∧ Rd2 w' A l (opF a x d) ∧ l ≤ m + 1 ∧ Below w.heap.size w w' := by
  have hx := okL_cases hok
  obtain ⟨x1, x2⟩ := x
  simp only at h0 hx
  subst h0
  have hx2 : 0 ≤ x2 ∧ x2 ≤ 399 := by omega
  obtain ⟨w5, hw5⟩ : ∃ w5, w.alloc (.cells #[.int .i64 0, .int .i64 x2] 62) = w5 := ⟨_, rfl⟩
  have E5 := Lib.hid (show Below w.heap.size w w5 by rw [← hw5]; exact below_size.alloc (Nat.le_refl _) _)
  have K5 := Lib.hid (show Blk w5 w.heap.size 62 #[.int .i64 0, .int .i64 x2] by rw [← hw5]; exact Blk.new _ _ _)
  have y0 : w5.cell? ⟨w.heap.size, 0, none⟩ = some (.int .i64 0) := K5.out.cell 0
  have y1 : w5.cell? ⟨w.heap.size, 1, none⟩ = some (.int .i64 x2) := K5.out.cell 1
  have f1 := K5.out.frozen 1
  have p5 := keepc E5.out hp
  have hz5 := E5.out.size
  have HA5 := Lib.hid (ha.below E5.out); have HOKA := Lib.hid hoka; have HVA := Lib.hid hva
  clear hok hx hp ha hoka hva
  by_cases hc : x2 = (d : Int)
  · subst hc
    have g1 : (((d : Nat) : Int) == (d : Int)) = true := by simp
    obtain ⟨S, hS⟩ : ∃ S, shiftL d a = S := ⟨_, rfl⟩
    have HS := Lib.hid hS
    have HF := Lib.hid (show opF a (0, (d : Int)) d = S by rw [opF, if_pos rfl, hS])
    rw [HF.out]
    clear hS
    go_enter Try.func103, Try.ntmps103
    go_wp2_with fail
    refine (shifted_c aa m ca a d S w5 HA5.out (by omega) hm HOKA.out HVA.out hd HS.out).mono ?_
    rintro e w6 ⟨A6, l6, c6, rfl, hr6, hl6, hb6⟩
    have R6 := Lib.hid hr6; have B6 := Lib.hid (below_chain E5.out hz5 hb6)
    clear hr6 hb6
    go_wp2_with fail
    go_ret
    exact ⟨A6, l6, c6, rfl, R6.out, by omega, B6.out⟩
  have g1 : (x2 == (d : Int)) = false := by simpa using hc
  by_cases hgt : (d : Int) < x2
  · have g2 : decide ((d : Int) < x2) = true := by rw [decide_eq_true_eq]; exact hgt
    have v1 : IntKind.i64.wrap (x2 - 1) = x2 - 1 := IntWalk.i64_in _ (by omega)
    have HF := Lib.hid (show opF a (0, x2) d = [(0, x2 - 1)] by rw [opF, if_neg hc, if_pos hgt])
    rw [HF.out]
    obtain ⟨w6, hw6⟩ : ∃ w6, w5.setCell ⟨w.heap.size, 1, none⟩ (.int .i64 (x2 - 1)) = w6 := ⟨_, rfl⟩
    have K6 := Lib.hid (show Blk w6 w.heap.size 62 #[.int .i64 0, .int .i64 (x2 - 1)] by rw [← hw6]; exact K5.out.set_ 1 _)
    have E6 := Lib.hid (show Below w.heap.size w w6 by rw [← hw6]; exact E5.out.setCell (Nat.le_refl _) _)
    have u0 : w6.cell? ⟨w.heap.size, 0, none⟩ = some (.int .i64 0) := K6.out.cell 0
    have u1 : w6.cell? ⟨w.heap.size, 1, none⟩ = some (.int .i64 (x2 - 1)) := K6.out.cell 1
    go_enter Try.func103, Try.ntmps103
    go_wp2_with fail
    go_ret
    first | exact ⟨_, _, _, rfl, rd_new2 [(0, x2 - 1)] _ rfl rfl, by omega, E6.out.alloc E6.out.size _⟩ | exact ⟨_, _, ⟨_, rfl⟩, rd_new2 [(0, x2 - 1)] _ rfl rfl, by omega, E6.out.alloc E6.out.size _⟩
  · have g2 : decide ((d : Int) < x2) = false := by rw [decide_eq_false_iff_not]; exact hgt
    have HF := Lib.hid (show opF a (0, x2) d = [(0, x2)] by rw [opF, if_neg hc, if_neg hgt])
    rw [HF.out]
    go_enter Try.func103, Try.ntmps103
    go_wp2_with fail
    go_ret
    first | exact ⟨_, _, _, rfl, rd_new2 [(0, x2)] _ rfl rfl, by omega, E5.out.alloc hz5 _⟩ | exact ⟨_, _, ⟨_, rfl⟩, rd_new2 [(0, x2)] _ rfl rfl, by omega, E5.out.alloc hz5 _⟩
end Go.Proofs.Ytcanahpgkedcjaa
