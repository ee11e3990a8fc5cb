/-
  Contracts of chapter 16: the word of a configuration, of the program; roomy.
-/
import Derived.Test.YtcbcjhfeidkeaaaC16f
import Derived.Test.YtcbcjhfeidkeaaaC05r
import Derived.Test.YtcbcjhfeidkeaaaJoin
import Derived.Test.YtcbcjhfeidkeaaaMixV
namespace Go.Proofs.Ytcbcjhfeidkeaaa
open Go.RowKit

/-- a slice of numbers of its own, with its capacity's bound -/
def fOk (n : Nat) (xs : List Int) : MixA.Fact1 := fun _ v lo hi w => ∃ A c, v = .slice A n c ∧ n ≤ c ∧ Wr w lo hi A n (xs.map i64)
theorem fOk_st (n : Nat) (xs : List Int) : MixA.Stab (fOk n xs) := fun _ _ _ _ _ _ hb h => by obtain ⟨A, c, e, hc, hw⟩ := h; exact ⟨A, c, e, hc, hw.below hb⟩
theorem rdV5 {w : World} {g : Nat} {t : TypeId} {A1 A2 A3 A4 A5 : Option Addr} {n1 n2 n3 n4 n5 c1 c2 c3 c4 c5 : Nat} {x1 x2 x3 x4 x5 : List Int} (hg : Blk w g t #[.slice A1 n1 c1, .slice A2 n2 c2, .slice A3 n3 c3, .slice A4 n4 c4, .slice A5 n5 c5]) (h1 : RdI w A1 n1 x1) (h2 : RdI w A2 n2 x2) (h3 : RdI w A3 n3 x3) (h4 : RdI w A4 n4 x4) (h5 : RdI w A5 n5 x5) :
    RdV w 1 (some ⟨g, 0, none⟩) 5 [⟨A1, n1, c1, x1.map i64⟩, ⟨A2, n2, c2, x2.map i64⟩, ⟨A3, n3, c3, x3.map i64⟩, ⟨A4, n4, c4, x4.map i64⟩, ⟨A5, n5, c5, x5.map i64⟩] := by
  refine ⟨hg.rd (by simp [hdV]) (by simp), fun t ht => ?_, fun t ht u hu => ?_⟩
  · simp at ht
    rcases ht with rfl | rfl | rfl | rfl | rfl
    · show Rd w A1 (n1 * 1) _; rw [Nat.mul_one]; exact h1
    · show Rd w A2 (n2 * 1) _; rw [Nat.mul_one]; exact h2
    · show Rd w A3 (n3 * 1) _; rw [Nat.mul_one]; exact h3
    · show Rd w A4 (n4 * 1) _; rw [Nat.mul_one]; exact h4
    · show Rd w A5 (n5 * 1) _; rw [Nat.mul_one]; exact h5
  · simp at ht
    rcases ht with rfl | rfl | rfl | rfl | rfl
    all_goals (obtain ⟨y, _, rfl⟩ := List.mem_map.1 hu; rfl)
theorem roomy_c (q : Int) (XA : Option Addr) (xn xc : Nat) (YA : Option Addr) (yn yc : Nat) (b : Bool) (w : World) (hx : xn ≤ 100000000) (hy : yn ≤ 100000000) (hb : (decide (xn ≤ 200) && decide (yn ≤ 200)) = b) :
    Calls Try.prog 69 #[.agg #[.int .i64 q, .slice XA xn xc, .slice YA yn yc]] w fun e' w' => e' = .returned (.bool b) ∧ Below w.heap.size w w' := by
  obtain ⟨w1, hw1⟩ : ∃ w1, w.alloc (.cells #[.int .i64 q, .slice XA xn xc, .slice YA yn yc] 30) = w1 := ⟨_, rfl⟩
  have E1 := Lib.hid (show Below w.heap.size w w1 by rw [← hw1]; exact below_size.alloc (Nat.le_refl _) _)
  have K := Lib.hid (show Blk w1 w.heap.size 30 #[.int .i64 q, .slice XA xn xc, .slice YA yn yc] by rw [← hw1]; exact Blk.new _ _ _)
  have c1 : w1.cell? ⟨w.heap.size, 1, none⟩ = some (.slice XA xn xc) := K.out.cell 1
  have c2 : w1.cell? ⟨w.heap.size, 2, none⟩ = some (.slice YA yn yc) := K.out.cell 2
  rw [← hb]
  by_cases h1 : xn ≤ 200
  · have g1 : decide ((xn : Int) ≤ 200) = true := by rw [decide_eq_true_eq]; omega
    by_cases h2 : yn ≤ 200
    · have g2 : decide ((yn : Int) ≤ 200) = true := by rw [decide_eq_true_eq]; omega
      have hz : (decide (xn ≤ 200) && decide (yn ≤ 200)) = true := by rw [decide_eq_true h1, decide_eq_true h2]; rfl
      rw [hz]
      go_enter Try.func69, Try.ntmps69
      go_wp2_with fail
      go_ret
      exact ⟨rfl, E1.out⟩
    · have g2 : decide ((yn : Int) ≤ 200) = false := by rw [decide_eq_false_iff_not]; omega
      have hz : (decide (xn ≤ 200) && decide (yn ≤ 200)) = false := by rw [decide_eq_true h1, decide_eq_false h2]; rfl
      rw [hz]
      go_enter Try.func69, Try.ntmps69
      go_wp2_with fail
      go_ret
      exact ⟨rfl, E1.out⟩
  · have g1 : decide ((xn : Int) ≤ 200) = false := by rw [decide_eq_false_iff_not]; omega
    have hz : (decide (xn ≤ 200) && decide (yn ≤ 200)) = false := by rw [decide_eq_false h1]; rfl
    rw [hz]
    go_enter Try.func69, Try.ntmps69
    go_wp2_with fail
    go_ret
    exact ⟨rfl, E1.out⟩
set_option maxHeartbeats 8000000 in
set_option maxRecDepth 100000 in
theorem wordOfConfig_c (s e q : Int) (XA : Option Addr) (xn xc : Nat) (xs : List Int) (YA : Option Addr) (yn yc : Nat) (ys : List Int) (W : List Int) (w : World) (hX : RdI w XA xn xs) (hY : RdI w YA yn ys) (hs : 0 ≤ s ∧ s ≤ 6) (hq : 0 ≤ q ∧ q ≤ 1000) (hx : xn ≤ 200) (hy : yn ≤ 200) (hW : wordW s e q xs ys = W) :
    Calls Try.prog 66 #[.agg #[.int .i64 s, .int .i64 e], .agg #[.int .i64 q, .slice XA xn xc, .slice YA yn yc]] w fun e' w' => ∃ A c, e' = .returned (.slice A W.length c) ∧ RdI w' A W.length W ∧ W.length = xn + yn + 3 ∧ W.length ≤ c ∧ Below w.heap.size w w' := by
  have hxl := hX.len; have hyl := hY.len
  have HL := Lib.hid (show W.length = xn + yn + 3 by rw [← hW, wordW]; simp [hxl, hyl]; omega)
  have HW := Lib.hid hW
  obtain ⟨w0, hw0⟩ : ∃ w0, (w.alloc (.cells #[.int .i64 s, .int .i64 e] 99)).alloc (.cells #[.int .i64 q, .slice XA xn xc, .slice YA yn yc] 30) = w0 := ⟨_, rfl⟩
  have E0 := Lib.hid (show Below w.heap.size w w0 by rw [← hw0]; exact (below_size.alloc (Nat.le_refl _) _).alloc (by simp) _)
  have KA := Lib.hid (show Blk w0 w.heap.size 99 #[.int .i64 s, .int .i64 e] by rw [← hw0]; exact (Blk.new _ _ _).alloc _)
  have KC := Lib.hid (show Blk w0 (w.heap.size + 1) 30 #[.int .i64 q, .slice XA xn xc, .slice YA yn yc] by rw [← hw0]; exact blk_new2 _ _ _ _ (by simp))
  have HX := Lib.hid (RdI.below hX E0.out); have HY := Lib.hid (RdI.below hY E0.out)
  have k0 : w0.cell? ⟨w.heap.size, 0, none⟩ = some (.int .i64 s) := KA.out.cell 0
  have k1 : w0.cell? ⟨w.heap.size, 1, none⟩ = some (.int .i64 e) := KA.out.cell 1
  have c0 : w0.cell? ⟨w.heap.size + 1, 0, none⟩ = some (.int .i64 q) := KC.out.cell 0
  have c1 : w0.cell? ⟨w.heap.size + 1, 1, none⟩ = some (.slice XA xn xc) := KC.out.cell 1
  have c2 : w0.cell? ⟨w.heap.size + 1, 2, none⟩ = some (.slice YA yn yc) := KC.out.cell 2
  have v1 : IntKind.i64.wrap (s + q) = s + q := IntWalk.i64_in _ (by omega)
  have HXL := Lib.hid hxl; have HYL := Lib.hid hyl
  clear hX hY hW hxl hyl
  go_enter Try.func66, Try.ntmps66
  go_wp2_with fail
  clear hw0
  have EW : ∀ w1, Below w0.drew.heap.size w0.drew w1 → Below w0.heap.size w0 w1 := fun w1 hb => below_of_drew hb
  -- region
  refine MixA.wp_facts 19 [5, 6, 7, 8, 9, 10, 11, 12, 13, 14, 15, 16, 17, 18, 19, 20, 21, 22, 23] [[], [0], [1], [], [3], [4], [], [6], [], [8], [7, 9], [10], [], [12], [], [14], [15], [2, 5, 11, 13, 16], [17, 2, 5, 11, 13, 16]]
    [MixA.fP (.pointer (some ⟨w.heap.size, 1, none⟩)),
     MixA.fP (.int .i64 e),
     MixA.fC 2 1 #[.int .i64 e],
     MixA.fP (.pointer (some ⟨w.heap.size + 1, 1, none⟩)),
     MixA.fP (.slice XA xn xc),
     MixA.fO xn xs.reverse,
     MixA.fP (.pointer (some ⟨w.heap.size, 0, none⟩)),
     MixA.fP (.int .i64 s),
     MixA.fP (.pointer (some ⟨w.heap.size + 1, 0, none⟩)),
     MixA.fP (.int .i64 q),
     MixA.fP (.int .i64 (s + q)),
     MixA.fC 2 1 #[.int .i64 (s + q)],
     MixA.fP (.pointer (some ⟨w.heap.size + 1, 2, none⟩)),
     MixA.fP (.slice YA yn yc),
     MixA.fP (.pointer (some ⟨w.heap.size, 1, none⟩)),
     MixA.fP (.int .i64 e),
     MixA.fC 2 1 #[.int .i64 e],
     MixA.fR 25 5,
     fOk W.length W]
    (by kernel_rfl) (by kernel_rfl) (fun t ht => Nat.lt_of_lt_of_eq (show t < 24 by revert t; decide) rfl) ?_ ?_
  · intro f hf
    simp only [List.mem_cons, List.not_mem_nil, or_false] at hf
    rcases hf with rfl | rfl | rfl | rfl | rfl | rfl | rfl | rfl | rfl | rfl | rfl | rfl | rfl | rfl | rfl | rfl | rfl | rfl | rfl
    · exact MixA.fP_st _
    · exact MixA.fP_st _
    · exact MixA.fC_st _ _ _
    · exact MixA.fP_st _
    · exact MixA.fP_st _
    · exact MixA.fO_st _ _
    · exact MixA.fP_st _
    · exact MixA.fP_st _
    · exact MixA.fP_st _
    · exact MixA.fP_st _
    · exact MixA.fP_st _
    · exact MixA.fC_st _ _ _
    · exact MixA.fP_st _
    · exact MixA.fP_st _
    · exact MixA.fP_st _
    · exact MixA.fP_st _
    · exact MixA.fC_st _ _ _
    · exact MixA.fR_st _ _
    · exact fOk_st _ _
  simp only [MixA.EachF]
  refine ⟨?_, ?_, ?_, ?_, ?_, ?_, ?_, ?_, ?_, ?_, ?_, ?_, ?_, ?_, ?_, ?_, ?_, ?_, ?_, ?_⟩
  · intro a1 w1 hf
    refine MixA.hop ⟨#[undef, undef, (.pointer (some ⟨w.heap.size, 0, none⟩)), undef, undef, undef], []⟩ (by intro cs b e; cases e) rfl (show 5 < 6 by decide) ?_ ?_
    · intro x hx
      simp [Op.operands] at hx
      rcases hx with rfl
      · exact (hf.was (t := 2) (by decide) rfl).trans rfl
    go_wp2_with fail
    first | exact ⟨below_size, rfl⟩ | exact ⟨_, rfl, below_size, rfl⟩
  · intro a1 w1 hf
    have E1 := EW w1 hf.below
    have hc0 : w1.cell? ⟨w.heap.size, 0, none⟩ = some (.int .i64 s) := keepc E1 k0
    have hc1 : w1.cell? ⟨w.heap.size, 1, none⟩ = some (.int .i64 e) := keepc E1 k1
    clear E1
    refine MixA.hop ⟨#[undef, undef, undef, undef, undef, (.pointer (some ⟨w.heap.size, 1, none⟩)), undef], []⟩ (by intro cs b e; cases e) rfl (show 6 < 7 by decide) ?_ ?_
    · intro x hx
      simp [Op.operands] at hx
      rcases hx with rfl
      · exact (hf.pure (j := 0) (by decide) rfl).trans rfl
    go_wp2_with fail
    first | exact ⟨below_size, rfl⟩ | exact ⟨_, rfl, below_size, rfl⟩
  · intro a1 w1 hf
    obtain ⟨R, hR, _⟩ := hf.facts
    have hv6 : MixA.val a1 6 = .int .i64 e := (hR 1 (by decide)).1
    clear hR
    refine MixA.hop ⟨#[undef, undef, undef, undef, undef, undef, (.int .i64 e), undef], []⟩ (by intro cs b e; cases e) rfl (show 7 < 8 by decide) ?_ ?_
    · intro x hx
      simp [Op.operands] at hx
      rcases hx with rfl
      · exact hv6.trans rfl
    go_wp2_with fail
    first | exact ⟨below_size.alloc (Nat.le_refl _) _, w1.heap.size, rfl, Nat.le_refl _, by simp, Blk.new w1 _ _⟩ | exact ⟨_, rfl, below_size.alloc (Nat.le_refl _) _, w1.heap.size, rfl, Nat.le_refl _, by simp, Blk.new w1 _ _⟩
  · intro a1 w1 hf
    refine MixA.hop ⟨#[undef, undef, undef, (.pointer (some ⟨w.heap.size + 1, 0, none⟩)), undef, undef, undef, undef, undef], []⟩ (by intro cs b e; cases e) rfl (show 8 < 9 by decide) ?_ ?_
    · intro x hx
      simp [Op.operands] at hx
      rcases hx with rfl
      · exact (hf.was (t := 3) (by decide) rfl).trans rfl
    go_wp2_with fail
    first | exact ⟨below_size, rfl⟩ | exact ⟨_, rfl, below_size, rfl⟩
  · intro a1 w1 hf
    have E1 := EW w1 hf.below
    have hc0 : w1.cell? ⟨w.heap.size + 1, 0, none⟩ = some (.int .i64 q) := keepc E1 c0
    have hc1 : w1.cell? ⟨w.heap.size + 1, 1, none⟩ = some (.slice XA xn xc) := keepc E1 c1
    have hc2 : w1.cell? ⟨w.heap.size + 1, 2, none⟩ = some (.slice YA yn yc) := keepc E1 c2
    clear E1
    refine MixA.hop ⟨#[undef, undef, undef, undef, undef, undef, undef, undef, (.pointer (some ⟨w.heap.size + 1, 1, none⟩)), undef], []⟩ (by intro cs b e; cases e) rfl (show 9 < 10 by decide) ?_ ?_
    · intro x hx
      simp [Op.operands] at hx
      rcases hx with rfl
      · exact (hf.pure (j := 3) (by decide) rfl).trans rfl
    go_wp2_with fail
    first | exact ⟨below_size, rfl⟩ | exact ⟨_, rfl, below_size, rfl⟩
  · intro a1 w1 hf
    obtain ⟨R, hR, _⟩ := hf.facts
    have hv9 : MixA.val a1 9 = .slice XA xn xc := (hR 4 (by decide)).1
    have E1 := EW w1 hf.below
    have HQ := Lib.hid (RdI.below HX.out E1)
    clear E1 hR
    refine MixA.hop ⟨#[undef, undef, undef, undef, undef, undef, undef, undef, undef, (.slice XA xn xc), undef], []⟩ (by intro cs b e; cases e) rfl (show 10 < 11 by decide) ?_ ?_
    · intro x hx
      simp [Op.operands, Call.operands] at hx
      rcases hx with rfl | rfl
      · rfl
      · exact hv9.trans rfl
    go_wp2_with fail
    refine (reversed_c XA xn xc xs w1 HQ.out (by omega)).mono ?_
    rintro e' w2 ⟨A2, cap2, rfl, hw2, hb2⟩
    have W2 := Lib.hid hw2; have B2 := Lib.hid hb2
    clear hw2 hb2
    go_wp2_with fail
    exact ⟨B2.out, A2, cap2, rfl, W2.out⟩
  · intro a1 w1 hf
    refine MixA.hop ⟨#[undef, undef, (.pointer (some ⟨w.heap.size, 0, none⟩)), undef, undef, undef, undef, undef, undef, undef, undef, undef], []⟩ (by intro cs b e; cases e) rfl (show 11 < 12 by decide) ?_ ?_
    · intro x hx
      simp [Op.operands] at hx
      rcases hx with rfl
      · exact (hf.was (t := 2) (by decide) rfl).trans rfl
    go_wp2_with fail
    first | exact ⟨below_size, rfl⟩ | exact ⟨_, rfl, below_size, rfl⟩
  · intro a1 w1 hf
    have E1 := EW w1 hf.below
    have hc0 : w1.cell? ⟨w.heap.size, 0, none⟩ = some (.int .i64 s) := keepc E1 k0
    have hc1 : w1.cell? ⟨w.heap.size, 1, none⟩ = some (.int .i64 e) := keepc E1 k1
    clear E1
    refine MixA.hop ⟨#[undef, undef, undef, undef, undef, undef, undef, undef, undef, undef, undef, (.pointer (some ⟨w.heap.size, 0, none⟩)), undef], []⟩ (by intro cs b e; cases e) rfl (show 12 < 13 by decide) ?_ ?_
    · intro x hx
      simp [Op.operands] at hx
      rcases hx with rfl
      · exact (hf.pure (j := 6) (by decide) rfl).trans rfl
    go_wp2_with fail
    first | exact ⟨below_size, rfl⟩ | exact ⟨_, rfl, below_size, rfl⟩
  · intro a1 w1 hf
    refine MixA.hop ⟨#[undef, undef, undef, (.pointer (some ⟨w.heap.size + 1, 0, none⟩)), undef, undef, undef, undef, undef, undef, undef, undef, undef, undef], []⟩ (by intro cs b e; cases e) rfl (show 13 < 14 by decide) ?_ ?_
    · intro x hx
      simp [Op.operands] at hx
      rcases hx with rfl
      · exact (hf.was (t := 3) (by decide) rfl).trans rfl
    go_wp2_with fail
    first | exact ⟨below_size, rfl⟩ | exact ⟨_, rfl, below_size, rfl⟩
  · intro a1 w1 hf
    have E1 := EW w1 hf.below
    have hc0 : w1.cell? ⟨w.heap.size + 1, 0, none⟩ = some (.int .i64 q) := keepc E1 c0
    have hc1 : w1.cell? ⟨w.heap.size + 1, 1, none⟩ = some (.slice XA xn xc) := keepc E1 c1
    have hc2 : w1.cell? ⟨w.heap.size + 1, 2, none⟩ = some (.slice YA yn yc) := keepc E1 c2
    clear E1
    refine MixA.hop ⟨#[undef, undef, undef, undef, undef, undef, undef, undef, undef, undef, undef, undef, undef, (.pointer (some ⟨w.heap.size + 1, 0, none⟩)), undef], []⟩ (by intro cs b e; cases e) rfl (show 14 < 15 by decide) ?_ ?_
    · intro x hx
      simp [Op.operands] at hx
      rcases hx with rfl
      · exact (hf.pure (j := 8) (by decide) rfl).trans rfl
    go_wp2_with fail
    first | exact ⟨below_size, rfl⟩ | exact ⟨_, rfl, below_size, rfl⟩
  · intro a1 w1 hf
    refine MixA.hop ⟨#[undef, undef, undef, undef, undef, undef, undef, undef, undef, undef, undef, undef, (.int .i64 s), undef, (.int .i64 q), undef], []⟩ (by intro cs b e; cases e) rfl (show 15 < 16 by decide) ?_ ?_
    · intro x hx
      simp [Op.operands] at hx
      rcases hx with rfl | rfl
      · exact (hf.pure (j := 7) (by decide) rfl).trans rfl
      · exact (hf.pure (j := 9) (by decide) rfl).trans rfl
    go_wp2_with fail
    first | exact ⟨below_size, rfl⟩ | exact ⟨_, rfl, below_size, rfl⟩
  · intro a1 w1 hf
    refine MixA.hop ⟨#[undef, undef, undef, undef, undef, undef, undef, undef, undef, undef, undef, undef, undef, undef, undef, (.int .i64 (s + q)), undef], []⟩ (by intro cs b e; cases e) rfl (show 16 < 17 by decide) ?_ ?_
    · intro x hx
      simp [Op.operands] at hx
      rcases hx with rfl
      · exact (hf.pure (j := 10) (by decide) rfl).trans rfl
    go_wp2_with fail
    first | exact ⟨below_size.alloc (Nat.le_refl _) _, w1.heap.size, rfl, Nat.le_refl _, by simp, Blk.new w1 _ _⟩ | exact ⟨_, rfl, below_size.alloc (Nat.le_refl _) _, w1.heap.size, rfl, Nat.le_refl _, by simp, Blk.new w1 _ _⟩
  · intro a1 w1 hf
    refine MixA.hop ⟨#[undef, undef, undef, (.pointer (some ⟨w.heap.size + 1, 0, none⟩)), undef, undef, undef, undef, undef, undef, undef, undef, undef, undef, undef, undef, undef, undef], []⟩ (by intro cs b e; cases e) rfl (show 17 < 18 by decide) ?_ ?_
    · intro x hx
      simp [Op.operands] at hx
      rcases hx with rfl
      · exact (hf.was (t := 3) (by decide) rfl).trans rfl
    go_wp2_with fail
    first | exact ⟨below_size, rfl⟩ | exact ⟨_, rfl, below_size, rfl⟩
  · intro a1 w1 hf
    have E1 := EW w1 hf.below
    have hc0 : w1.cell? ⟨w.heap.size + 1, 0, none⟩ = some (.int .i64 q) := keepc E1 c0
    have hc1 : w1.cell? ⟨w.heap.size + 1, 1, none⟩ = some (.slice XA xn xc) := keepc E1 c1
    have hc2 : w1.cell? ⟨w.heap.size + 1, 2, none⟩ = some (.slice YA yn yc) := keepc E1 c2
    clear E1
    refine MixA.hop ⟨#[undef, undef, undef, undef, undef, undef, undef, undef, undef, undef, undef, undef, undef, undef, undef, undef, undef, (.pointer (some ⟨w.heap.size + 1, 2, none⟩)), undef], []⟩ (by intro cs b e; cases e) rfl (show 18 < 19 by decide) ?_ ?_
    · intro x hx
      simp [Op.operands] at hx
      rcases hx with rfl
      · exact (hf.pure (j := 12) (by decide) rfl).trans rfl
    go_wp2_with fail
    first | exact ⟨below_size, rfl⟩ | exact ⟨_, rfl, below_size, rfl⟩
  · intro a1 w1 hf
    refine MixA.hop ⟨#[undef, undef, (.pointer (some ⟨w.heap.size, 0, none⟩)), undef, undef, undef, undef, undef, undef, undef, undef, undef, undef, undef, undef, undef, undef, undef, undef, undef], []⟩ (by intro cs b e; cases e) rfl (show 19 < 20 by decide) ?_ ?_
    · intro x hx
      simp [Op.operands] at hx
      rcases hx with rfl
      · exact (hf.was (t := 2) (by decide) rfl).trans rfl
    go_wp2_with fail
    first | exact ⟨below_size, rfl⟩ | exact ⟨_, rfl, below_size, rfl⟩
  · intro a1 w1 hf
    have E1 := EW w1 hf.below
    have hc0 : w1.cell? ⟨w.heap.size, 0, none⟩ = some (.int .i64 s) := keepc E1 k0
    have hc1 : w1.cell? ⟨w.heap.size, 1, none⟩ = some (.int .i64 e) := keepc E1 k1
    clear E1
    refine MixA.hop ⟨#[undef, undef, undef, undef, undef, undef, undef, undef, undef, undef, undef, undef, undef, undef, undef, undef, undef, undef, undef, (.pointer (some ⟨w.heap.size, 1, none⟩)), undef], []⟩ (by intro cs b e; cases e) rfl (show 20 < 21 by decide) ?_ ?_
    · intro x hx
      simp [Op.operands] at hx
      rcases hx with rfl
      · exact (hf.pure (j := 14) (by decide) rfl).trans rfl
    go_wp2_with fail
    first | exact ⟨below_size, rfl⟩ | exact ⟨_, rfl, below_size, rfl⟩
  · intro a1 w1 hf
    obtain ⟨R, hR, _⟩ := hf.facts
    have hv20 : MixA.val a1 20 = .int .i64 e := (hR 15 (by decide)).1
    clear hR
    refine MixA.hop ⟨#[undef, undef, undef, undef, undef, undef, undef, undef, undef, undef, undef, undef, undef, undef, undef, undef, undef, undef, undef, undef, (.int .i64 e), undef], []⟩ (by intro cs b e; cases e) rfl (show 21 < 22 by decide) ?_ ?_
    · intro x hx
      simp [Op.operands] at hx
      rcases hx with rfl
      · exact hv20.trans rfl
    go_wp2_with fail
    first | exact ⟨below_size.alloc (Nat.le_refl _) _, w1.heap.size, rfl, Nat.le_refl _, by simp, Blk.new w1 _ _⟩ | exact ⟨_, rfl, below_size.alloc (Nat.le_refl _) _, w1.heap.size, rfl, Nat.le_refl _, by simp, Blk.new w1 _ _⟩
  · intro a1 w1 hf
    obtain ⟨R, hR, _⟩ := hf.facts
    obtain ⟨g7, hv7, _⟩ : MixA.fC 2 1 #[.int .i64 e] [] (MixA.val a1 7) (R 2).1 (R 2).2 w1 := (hR 2 (by decide)).1
    obtain ⟨g16, hv16, _⟩ : MixA.fC 2 1 #[.int .i64 (s + q)] [] (MixA.val a1 16) (R 11).1 (R 11).2 w1 := (hR 11 (by decide)).1
    obtain ⟨g21, hv21, _⟩ : MixA.fC 2 1 #[.int .i64 e] [] (MixA.val a1 21) (R 16).1 (R 16).2 w1 := (hR 16 (by decide)).1
    obtain ⟨A10, c10, hv10, _⟩ : MixA.fO xn xs.reverse [] (MixA.val a1 10) (R 5).1 (R 5).2 w1 := (hR 5 (by decide)).1
    have hv18 : MixA.val a1 18 = .slice YA yn yc := (hR 13 (by decide)).1
    clear hR
    refine MixA.hop ⟨#[undef, undef, undef, undef, undef, undef, undef, (.slice (some ⟨g7, 0, none⟩) 1 1), undef, undef, (.slice A10 xn c10), undef, undef, undef, undef, undef, (.slice (some ⟨g16, 0, none⟩) 1 1), undef, (.slice YA yn yc), undef, undef, (.slice (some ⟨g21, 0, none⟩) 1 1), undef], []⟩ (by intro cs b e; cases e) rfl (show 22 < 23 by decide) ?_ ?_
    · intro x hx
      simp [Op.operands] at hx
      rcases hx with rfl | rfl | rfl | rfl | rfl
      · exact hv7.trans rfl
      · exact hv10.trans rfl
      · exact hv16.trans rfl
      · exact hv18.trans rfl
      · exact hv21.trans rfl
    go_wp2_with fail
    first | exact ⟨below_size.alloc (Nat.le_refl _) _, w1.heap.size, rfl, Nat.le_refl _, by simp, Blk.new w1 _ _⟩ | exact ⟨_, rfl, below_size.alloc (Nat.le_refl _) _, w1.heap.size, rfl, Nat.le_refl _, by simp, Blk.new w1 _ _⟩
  · intro a1 w1 hf
    obtain ⟨R, hR, _⟩ := hf.facts
    obtain ⟨g7, hv7, _, _, h7⟩ : MixA.fC 2 1 #[.int .i64 e] [] (MixA.val a1 7) (R 2).1 (R 2).2 w1 := (hR 2 (by decide)).1
    obtain ⟨g16, hv16, _, _, h16⟩ : MixA.fC 2 1 #[.int .i64 (s + q)] [] (MixA.val a1 16) (R 11).1 (R 11).2 w1 := (hR 11 (by decide)).1
    obtain ⟨g21, hv21, _, _, h21⟩ : MixA.fC 2 1 #[.int .i64 e] [] (MixA.val a1 21) (R 16).1 (R 16).2 w1 := (hR 16 (by decide)).1
    obtain ⟨A10, c10, hv10, h10⟩ : MixA.fO xn xs.reverse [] (MixA.val a1 10) (R 5).1 (R 5).2 w1 := (hR 5 (by decide)).1
    have hv18 : MixA.val a1 18 = .slice YA yn yc := (hR 13 (by decide)).1
    obtain ⟨g22, hv22, _, _, h22⟩ : MixA.fR 25 5 [MixA.val a1 7, MixA.val a1 10, MixA.val a1 16, MixA.val a1 18, MixA.val a1 21] (MixA.val a1 22) (R 17).1 (R 17).2 w1 := (hR 17 (by decide)).1
    rw [hv7, hv10, hv16, hv18, hv21] at h22
    have E1 := EW w1 hf.below
    have HRV := Lib.hid (rdV5 h22 (h7.rd (vs := [e].map i64) rfl (by simp)) h10.rd (h16.rd (vs := [s + q].map i64) rfl (by simp)) (RdI.below HY.out E1) (h21.rd (vs := [e].map i64) rfl (by simp)))
    clear hR h7 h10 h16 h21 h22 E1
    refine MixA.hop ⟨#[undef, undef, undef, undef, undef, undef, undef, undef, undef, undef, undef, undef, undef, undef, undef, undef, undef, undef, undef, undef, undef, undef, (.slice (some ⟨g22, 0, none⟩) 5 5), undef], []⟩ (by intro cs b e; cases e) rfl (show 23 < 24 by decide) ?_ ?_
    · intro x hx
      simp [Op.operands, Call.operands] at hx
      rcases hx with rfl | rfl
      · rfl
      · exact hv22.trans rfl
    go_wp2_with fail
    refine (joined_c (some ⟨g22, 0, none⟩) 5 5 _ w1 HRV.out (by omega) (by simp [sumV]; omega)).mono ?_
    rintro e' w4 ⟨A4, c4, rfl, hw4, hc4, hb4⟩
    have L4 := Lib.hid (show Wr w4 w1.heap.size w4.heap.size A4 W.length (W.map i64) by
      rw [Nat.mul_one] at hw4
      rw [HL.out, ← HW.out]
      have hn : sumV [⟨some ⟨g7, 0, none⟩, 1, 1, [e].map i64⟩, ⟨A10, xn, c10, xs.reverse.map i64⟩, ⟨some ⟨g16, 0, none⟩, 1, 1, [s + q].map i64⟩, ⟨YA, yn, yc, ys.map i64⟩, ⟨some ⟨g21, 0, none⟩, 1, 1, [e].map i64⟩] = xn + yn + 3 := by simp [sumV]; omega
      rw [hn] at hw4
      simpa [wordW, List.flatMap_cons] using hw4)
    have B4 := Lib.hid hb4
    have hs4 : sumV [⟨some ⟨g7, 0, none⟩, 1, 1, [e].map i64⟩, ⟨A10, xn, c10, xs.reverse.map i64⟩, ⟨some ⟨g16, 0, none⟩, 1, 1, [s + q].map i64⟩, ⟨YA, yn, yc, ys.map i64⟩, ⟨some ⟨g21, 0, none⟩, 1, 1, [e].map i64⟩] = W.length := by rw [HL.out]; simp [sumV]; omega
    rw [hs4] at hc4 ⊢
    clear hw4 hb4 hs4
    go_wp2_with fail
    exact ⟨B4.out, A4, c4, rfl, hc4, L4.out⟩
  · intro a1 w1 hf
    obtain ⟨R, hR, _⟩ := hf.facts
    obtain ⟨A23, c23, hv23, hc23, h23⟩ : fOk W.length W [] (MixA.val a1 23) (R 18).1 (R 18).2 w1 := (hR 18 (by decide)).1
    have E1 := Lib.hid (E0.out.trans ((EW w1 hf.below).mono E0.out.size))
    have L6 := Lib.hid h23
    rw [hf.act]
    clear hR h23 EW
    simp only [List.foldl_cons, List.foldl_nil, hv23]
    clear hv23 hf
    simp only [Act.put, List.setIfInBounds_toArray, List.set_cons_succ, List.set_cons_zero]
    go_wp2_with fail
    go_ret
    exact ⟨_, _, rfl, L6.out.rdI, HL.out, hc23, E1.out⟩
-- behind the region
end Go.Proofs.Ytcbcjhfeidkeaaa
