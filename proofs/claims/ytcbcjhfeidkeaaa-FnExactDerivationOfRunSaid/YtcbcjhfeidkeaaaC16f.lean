/-
  Contracts of chapter 16: the letters and the rules of a machine, of the program.
-/
import Derived.Test.YtcbcjhfeidkeaaaC16d
namespace Go.Proofs.Ytcbcjhfeidkeaaa
open Go.RowKit

theorem fitting_c (A : Option Addr) (n c : Nat) (w : World) (_hn : n ≤ 100000000) : Calls Try.prog 65 #[.slice A n c] w fun e w' => e = .returned (if n ≤ 400 then .tuple #[.slice A n c, .int .i64 0] else .tuple #[.slice none 0 0, .int .i64 5]) ∧ w = w' := by
  by_cases h : n ≤ 400
  · have g : decide ((400 : Int) < (n : Int)) = false := by rw [decide_eq_false_iff_not]; omega
    rw [if_pos h]
    go_enter Try.func65, Try.ntmps65
    go_wp2_with fail
    go_ret2
    exact ⟨rfl, rfl⟩
  · have g : decide ((400 : Int) < (n : Int)) = true := by rw [decide_eq_true_eq]; omega
    rw [if_neg h]
    go_enter Try.func65, Try.ntmps65
    go_wp2_with fail
    go_ret2
    exact ⟨rfl, rfl⟩
set_option maxRecDepth 100000 in
theorem alphabetOf_c (s : Nat) (t e : Int) (RA : Option Addr) (rn rc : Nat) (w : World) (hs : 2 ≤ s ∧ s ≤ 6) (he : e = s + t) (ht : 1 ≤ t ∧ t ≤ 1000) :
    Calls Try.prog 80 #[.agg #[.int .i64 s, .int .i64 t, .slice RA rn rc]] w fun e' w' => e' = .returned (if e ≤ 9 then .tuple #[.agg #[.int .i64 s, .int .i64 e], .int .i64 0] else .tuple #[.agg #[.int .i64 0, .int .i64 0], .int .i64 5]) ∧ Below w.heap.size w w' := by
  have v1 : IntKind.i64.wrap ((s : Int) + t) = e := by rw [IntWalk.i64_in _ (by omega)]; exact he.symm
  clear he
  by_cases h : e ≤ 9
  · have g : decide ((9 : Int) < e) = false := by rw [decide_eq_false_iff_not]; omega
    rw [if_pos h]
    go_enter Try.func80, Try.ntmps80
    go_wp2_with fail
    obtain ⟨wE, hwE⟩ : ∃ wE, ((w.alloc (.cells #[.int .i64 s, .int .i64 t, .slice RA rn rc] 35)).alloc (.cells #[.int .i64 s, .int .i64 e] 99)).alloc (.cells #[.int .i64 s, .int .i64 e] 99) = wE := ⟨_, rfl⟩
    rw [hwE]
    have KE : Blk wE (w.heap.size + 1) 99 #[.int .i64 s, .int .i64 e] := by rw [← hwE]; exact (blk_new2 _ _ _ _ (by simp)).alloc _
    have BE : Below w.heap.size w wE := by rw [← hwE]; exact ((below_size.alloc (Nat.le_refl _) _).alloc (by simp) _).alloc (by simp; omega) _
    have c0 : wE.cell? ⟨w.heap.size + 1, 0, none⟩ = some (.int .i64 s) := KE.cell 0
    have c1 : wE.cell? ⟨w.heap.size + 1, 1, none⟩ = some (.int .i64 e) := KE.cell 1
    refine bodyPost_ret (v := .tuple #[.agg #[.int .i64 s, .int .i64 e], .int .i64 0]) (by simp [results, Try.results80, go_sem, c0, c1]) rfl ?_
    exact ⟨rfl, BE⟩
  · have g : decide ((9 : Int) < e) = true := by rw [decide_eq_true_eq]; omega
    rw [if_neg h]
    go_enter Try.func80, Try.ntmps80
    go_wp2_with fail
    obtain ⟨wE, hwE⟩ : ∃ wE, ((w.alloc (.cells #[.int .i64 s, .int .i64 t, .slice RA rn rc] 35)).alloc (.cells #[.int .i64 0, .int .i64 0] 99)).alloc (.cells #[.int .i64 s, .int .i64 e] 99) = wE := ⟨_, rfl⟩
    rw [hwE]
    have KE : Blk wE (w.heap.size + 1) 99 #[.int .i64 0, .int .i64 0] := by rw [← hwE]; exact (blk_new2 _ _ _ _ (by simp)).alloc _
    have BE : Below w.heap.size w wE := by rw [← hwE]; exact ((below_size.alloc (Nat.le_refl _) _).alloc (by simp) _).alloc (by simp; omega) _
    have c0 : wE.cell? ⟨w.heap.size + 1, 0, none⟩ = some (.int .i64 0) := KE.cell 0
    have c1 : wE.cell? ⟨w.heap.size + 1, 1, none⟩ = some (.int .i64 0) := KE.cell 1
    refine bodyPost_ret (v := .tuple #[.agg #[.int .i64 0, .int .i64 0], .int .i64 5]) (by simp [results, Try.results80, go_sem, c0, c1]) rfl ?_
    exact ⟨rfl, BE⟩
def fitsB (e : Int) (X : List Rw) : Bool := decide (e ≤ 9) && decide (1 ≤ X.length) && decide (X.length ≤ 60)
/-- the letters, the rules, a code -/
def MtOut (s : Nat) (e : Int) (X : List Rw) (w : World) (e' : Ending) (w' : World) : Prop :=
  if fitsB e X = true then ∃ P pc ts, e' = .returned (.tuple #[.agg #[.int .i64 s, .int .i64 e], .slice P ts.length pc, .int .i64 0]) ∧ RwL w' w.heap.size w.heap.size P ts.length pc ts ∧ ts.map datR = X ∧ Below w.heap.size w w'
  else e' = .returned (.tuple #[.agg #[.int .i64 0, .int .i64 0], .slice none 0 0, .int .i64 5]) ∧ Below w.heap.size w w'
set_option maxHeartbeats 2000000 in
set_option maxRecDepth 100000 in
theorem machineToRewrites_c (s : Nat) (t e : Int) (RA : Option Addr) (rn rc : Nat) (rs : List Rule3) (X : List Rw) (w : World) (h : Rd3 w RA rn rs) (hs : 2 ≤ s ∧ s ≤ 6) (he : e = s + t) (ht : 1 ≤ t ∧ t ≤ 1000) (hn : rn ≤ 10000) (hr : ∀ r ∈ rs, r ≠ noneR → 0 ≤ r.2.2 ∧ r.2.2 ≤ 100000) (hX : rwAll s e 0 rs = X) :
    Calls Try.prog 64 #[.agg #[.int .i64 s, .int .i64 t, .slice RA rn rc]] w (MtOut s e X w) := by
  have H := Lib.hid h; have HX := Lib.hid hX; have HR := Lib.hid hr; have HEE := Lib.hid he
  clear h hX hr he
  obtain ⟨w2, hw2⟩ : ∃ w2, (w.alloc (.cells #[.int .i64 s, .int .i64 t, .slice RA rn rc] 35)).alloc (.cells #[.int .i64 0, .int .i64 0] 99) = w2 := ⟨_, rfl⟩
  have E2 := Lib.hid (show Below w.heap.size w w2 by rw [← hw2]; exact (below_size.alloc (Nat.le_refl _) _).alloc (by simp) _)
  have hz2 : w.heap.size + 2 ≤ w2.heap.size := by rw [← hw2]; simp
  have KM := Lib.hid (show Blk w2 w.heap.size 35 #[.int .i64 s, .int .i64 t, .slice RA rn rc] by rw [← hw2]; exact (Blk.new _ _ _).alloc _)
  have KR := Lib.hid (show Blk w2 (w.heap.size + 1) 99 #[.int .i64 0, .int .i64 0] by rw [← hw2]; exact blk_new2 _ _ _ _ (by simp))
  have m0 : w2.cell? ⟨w.heap.size, 0, none⟩ = some (.int .i64 s) := KM.out.cell 0
  have m1 : w2.cell? ⟨w.heap.size, 1, none⟩ = some (.int .i64 t) := KM.out.cell 1
  have m2 : w2.cell? ⟨w.heap.size, 2, none⟩ = some (.slice RA rn rc) := KM.out.cell 2
  go_enter Try.func64, Try.ntmps64
  go_wp2_with fail
  refine (alphabetOf_c s t e RA rn rc w2 hs HEE.out ht).mono ?_
  rintro e' w3 ⟨rfl, hb3⟩
  have E3 := Lib.hid (below_chain E2.out (by omega) hb3)
  have KM3 := Lib.hid (KM.out.keep hb3); have KR3 := Lib.hid (KR.out.keep hb3)
  have hz3 : w.heap.size + 2 ≤ w3.heap.size := Nat.le_trans hz2 hb3.size
  clear m0 m1 m2 hb3 KM KR hw2
  by_cases h9 : e ≤ 9
  · rw [if_pos h9]
    obtain ⟨w4, hw4⟩ : ∃ w4, w3.alloc (.cells #[.int .i64 s, .int .i64 e] 99) = w4 := ⟨_, rfl⟩
    have E4 := Lib.hid (show Below w.heap.size w w4 by rw [← hw4]; exact E3.out.alloc (by omega) _)
    have KM4 := Lib.hid (show Blk w4 w.heap.size 35 #[.int .i64 s, .int .i64 t, .slice RA rn rc] by rw [← hw4]; exact KM3.out.alloc _)
    have KR4 := Lib.hid (show Blk w4 (w.heap.size + 1) 99 #[.int .i64 0, .int .i64 0] by rw [← hw4]; exact KR3.out.alloc _)
    have KA4 := Lib.hid (show Blk w4 w3.heap.size 99 #[.int .i64 s, .int .i64 e] by rw [← hw4]; exact Blk.new _ _ _)
    have hz4 : w3.heap.size ≤ w4.heap.size := by rw [← hw4]; simp
    have m0 : w4.cell? ⟨w.heap.size, 0, none⟩ = some (.int .i64 s) := KM4.out.cell 0
    have m1 : w4.cell? ⟨w.heap.size, 1, none⟩ = some (.int .i64 t) := KM4.out.cell 1
    have m2 : w4.cell? ⟨w.heap.size, 2, none⟩ = some (.slice RA rn rc) := KM4.out.cell 2
    have a0 : w4.cell? ⟨w3.heap.size, 0, none⟩ = some (.int .i64 s) := KA4.out.cell 0
    have a1 : w4.cell? ⟨w3.heap.size, 1, none⟩ = some (.int .i64 e) := KA4.out.cell 1
    clear KM3 KR3
    go_wp2_with fail
    refine (machineRewrites_c s t e RA rn rc rs X w4 (H.out.below E4.out) hs HEE.out ht hn HR.out HX.out).mono ?_
    rintro e' w5 ⟨P, pc, ts, rfl, hL, hT, hb5⟩
    have E5 := Lib.hid (below_chain E4.out (by omega) hb5)
    have KR5 := Lib.hid (KR4.out.keep hb5); have KA5 := Lib.hid (KA4.out.keep hb5)
    have L5 := Lib.hid (hL.widen (B' := w.heap.size) (L' := w3.heap.size) (by omega) (by omega))
    have HT := Lib.hid hT
    have hXl : ts.length = X.length := by rw [← hT, List.length_map]
    have hz5 := hb5.size
    clear hL hT hb5 m0 m1 m2 a0 a1 KR4 KA4
    obtain ⟨qb, hqb⟩ : ∃ qb, inB (X.length : Int) 1 60 = qb := ⟨_, rfl⟩
    have HQB := Lib.hid hqb
    rw [hXl]
    have HXL := Lib.hid hXl
    clear hXl
    have b0 : w5.cell? ⟨w3.heap.size, 0, none⟩ = some (.int .i64 s) := KA5.out.cell 0
    have b1 : w5.cell? ⟨w3.heap.size, 1, none⟩ = some (.int .i64 e) := KA5.out.cell 1
    have r0 : w5.cell? ⟨w.heap.size + 1, 0, none⟩ = some (.int .i64 0) := KR5.out.cell 0
    have r1 : w5.cell? ⟨w.heap.size + 1, 1, none⟩ = some (.int .i64 0) := KR5.out.cell 1
    have f0 := KR5.out.frozen 0; have f1 := KR5.out.frozen 1
    cases qb
    · have hf := inB_f hqb
      have HF := Lib.hid (show fitsB e X = false by
        unfold fitsB; rw [decide_eq_true h9]
        by_cases h1 : 1 ≤ X.length
        · rw [decide_eq_true h1, decide_eq_false (by omega)]; rfl
        · rw [decide_eq_false h1]; rfl)
      clear hqb hf
      go_wp2_with fail
      refine (sizeRw_c _ _ _ _).mono ?_
      rintro e' w' ⟨rfl, rfl⟩
      go_wp2_with fail
      refine (within_b _ _ _ _ HQB.out _).mono ?_
      rintro e' w' ⟨rfl, rfl⟩
      obtain ⟨wz, hwz⟩ : ∃ wz, (w5.setCell ⟨w.heap.size + 1, 0, none⟩ (.int .i64 0)).setCell ⟨w.heap.size + 1, 1, none⟩ (.int .i64 0) = wz := ⟨_, rfl⟩
      have KRz := Lib.hid (show Blk wz (w.heap.size + 1) 99 #[.int .i64 0, .int .i64 0] by rw [← hwz]; exact (KR5.out.set_ 0 _).set_ 1 _)
      have Ez := Lib.hid (show Below w.heap.size w wz by rw [← hwz]; exact (E5.out.setCell (by simp) _).setCell (by simp) _)
      have c0 : wz.cell? ⟨w.heap.size + 1, 0, none⟩ = some (.int .i64 0) := KRz.out.cell 0
      have c1 : wz.cell? ⟨w.heap.size + 1, 1, none⟩ = some (.int .i64 0) := KRz.out.cell 1
      go_wp2_with fail
      refine bodyPost_ret (v := .tuple #[.agg #[.int .i64 0, .int .i64 0], .slice none 0 0, .int .i64 5]) (by simp [results, Try.results64, go_sem, c0, c1]) rfl ?_
      unfold MtOut
      rw [HF.out, if_neg (by decide)]
      exact ⟨rfl, Ez.out⟩
    · have hf := inB_t hqb
      have HF := Lib.hid (show fitsB e X = true by
        unfold fitsB; rw [decide_eq_true h9, decide_eq_true (by omega), decide_eq_true (by omega)]; rfl)
      clear hqb
      go_wp2_with fail
      refine (sizeRw_c _ _ _ _).mono ?_
      rintro e' w' ⟨rfl, rfl⟩
      go_wp2_with fail
      refine (within_b _ _ _ _ HQB.out _).mono ?_
      rintro e' w' ⟨rfl, rfl⟩
      obtain ⟨wz, hwz⟩ : ∃ wz, (w5.setCell ⟨w.heap.size + 1, 0, none⟩ (.int .i64 s)).setCell ⟨w.heap.size + 1, 1, none⟩ (.int .i64 e) = wz := ⟨_, rfl⟩
      have KRz := Lib.hid (show Blk wz (w.heap.size + 1) 99 #[.int .i64 s, .int .i64 e] by rw [← hwz]; exact (KR5.out.set_ 0 _).set_ 1 _)
      have Ez := Lib.hid (show Below w.heap.size w wz by rw [← hwz]; exact (E5.out.setCell (by simp) _).setCell (by simp) _)
      have Lz := Lib.hid (show RwL wz w.heap.size w.heap.size P ts.length pc ts by rw [← hwz]; exact ((L5.out.far (ty := 99) KR5.out (by decide) (by simp; omega) _).far (ty := 99) (KR5.out.set_ 0 _) (by decide) (by simp; omega) _).widen (Nat.le_refl _) (by omega))
      have c0 : wz.cell? ⟨w.heap.size + 1, 0, none⟩ = some (.int .i64 s) := KRz.out.cell 0
      have c1 : wz.cell? ⟨w.heap.size + 1, 1, none⟩ = some (.int .i64 e) := KRz.out.cell 1
      go_wp2_with fail
      refine bodyPost_ret (v := .tuple #[.agg #[.int .i64 s, .int .i64 e], .slice P ts.length pc, .int .i64 0]) (by simp [results, Try.results64, go_sem, c0, c1]; exact HXL.out.symm) rfl ?_
      unfold MtOut
      rw [HF.out, if_pos rfl]
      exact ⟨P, pc, ts, rfl, Lz.out, HT.out, Ez.out⟩
  · rw [if_neg h9]
    have HF := Lib.hid (show fitsB e X = false by unfold fitsB; rw [decide_eq_false h9]; rfl)
    obtain ⟨wx, hwx⟩ : ∃ wx, w3.alloc (.cells #[.int .i64 0, .int .i64 0] 99) = wx := ⟨_, rfl⟩
    have KRx := Lib.hid (show Blk wx (w.heap.size + 1) 99 #[.int .i64 0, .int .i64 0] by rw [← hwx]; exact KR3.out.alloc _)
    have Ex := Lib.hid (show Below w.heap.size w wx by rw [← hwx]; exact E3.out.alloc (by omega) _)
    have KXx := Lib.hid (show Blk wx w3.heap.size 99 #[.int .i64 0, .int .i64 0] by rw [← hwx]; exact Blk.new _ _ _)
    obtain ⟨b, hb⟩ : ∃ b, w3.heap.size = b := ⟨_, rfl⟩
    rw [hb] at KXx hz3
    have x0 : wx.cell? ⟨b, 0, none⟩ = some (.int .i64 0) := KXx.out.cell 0
    have x1 : wx.cell? ⟨b, 1, none⟩ = some (.int .i64 0) := KXx.out.cell 1
    have g0 := KXx.out.frozen 0; have g1 := KXx.out.frozen 1
    obtain ⟨wy, hwy⟩ : ∃ wy, (wx.setCell ⟨b, 0, none⟩ (.int .i64 0)).setCell ⟨b, 1, none⟩ (.int .i64 0) = wy := ⟨_, rfl⟩
    have KRy := Lib.hid (show Blk wy (w.heap.size + 1) 99 #[.int .i64 0, .int .i64 0] by rw [← hwy]; exact (KRx.out.far (by simp; omega) _).far (by simp; omega) _)
    have Ey := Lib.hid (show Below w.heap.size w wy by rw [← hwy]; exact (Ex.out.setCell (by simp; omega) _).setCell (by simp; omega) _)
    have r0 : wy.cell? ⟨w.heap.size + 1, 0, none⟩ = some (.int .i64 0) := KRy.out.cell 0
    have r1 : wy.cell? ⟨w.heap.size + 1, 1, none⟩ = some (.int .i64 0) := KRy.out.cell 1
    have f0 := KRy.out.frozen 0; have f1 := KRy.out.frozen 1
    obtain ⟨wz, hwz⟩ : ∃ wz, (wy.setCell ⟨w.heap.size + 1, 0, none⟩ (.int .i64 0)).setCell ⟨w.heap.size + 1, 1, none⟩ (.int .i64 0) = wz := ⟨_, rfl⟩
    have KRz := Lib.hid (show Blk wz (w.heap.size + 1) 99 #[.int .i64 0, .int .i64 0] by rw [← hwz]; exact (KRy.out.set_ 0 _).set_ 1 _)
    have Ez := Lib.hid (show Below w.heap.size w wz by rw [← hwz]; exact (Ey.out.setCell (by simp) _).setCell (by simp) _)
    have c0 : wz.cell? ⟨w.heap.size + 1, 0, none⟩ = some (.int .i64 0) := KRz.out.cell 0
    have c1 : wz.cell? ⟨w.heap.size + 1, 1, none⟩ = some (.int .i64 0) := KRz.out.cell 1
    go_wp2_with fail
    refine bodyPost_ret (v := .tuple #[.agg #[.int .i64 0, .int .i64 0], .slice none 0 0, .int .i64 5]) (by simp [results, Try.results64, go_sem, c0, c1]) rfl ?_
    unfold MtOut
    rw [HF.out, if_neg (by decide)]
    exact ⟨rfl, Ez.out⟩
end Go.Proofs.Ytcbcjhfeidkeaaa
