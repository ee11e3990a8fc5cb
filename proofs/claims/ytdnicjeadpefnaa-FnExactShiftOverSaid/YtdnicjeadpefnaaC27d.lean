/-
  Contracts of chapter 27 (bouncers): ShiftOver.
-/
import Derived.Test.YtdnicjeadpefnaaC27c
namespace Go.Proofs.Ytdnicjeadpefnaa
open Go.RowKit

set_option maxHeartbeats 4000000 in
set_option maxRecDepth 100000 in
theorem sShiftOver_c (sy st : Int) (A : Option Addr) (n cp : Nat) (rs : List Rule3) (state side : Int) (A' : Option Addr) (m c' : Nat) (ws : List Int) (w : World) (h : RdS w [sgX enc3 3 A n rs]) (h' : RdI w A' m ws) (hn : n ≤ 2000000) (hn' : m ≤ 2000000) :
    Calls Try.prog 16 #[.agg #[.int .i64 sy, .int .i64 st, .slice A n cp], .int .i64 state, .slice A' m c', .int .i64 side] w (ShOut (shiftR sy st rs state ws side) w) := by
  replace h : Rd3 w A n rs := h.head
  have HL' := Lib.hid h'.len
  have H := Lib.hid (show MachP (w.alloc (.cells #[i64 sy, i64 st, .slice A n cp] 31)) w.heap.size sy st A n cp rs from ⟨new_cell _ _ _ 0, new_cell _ _ _ 1, new_cell _ _ _ 2, h.alloc _⟩)
  have H' := Lib.hid h'
  have B0 := Lib.hid (show Below w.heap.size w (w.alloc (.cells #[i64 sy, i64 st, .slice A n cp] 31)) from below_size.alloc (Nat.le_refl _) _)
  clear h h'
  obtain ⟨R, hR⟩ : ∃ R, shiftR sy st rs state ws side = R := ⟨_, rfl⟩
  rw [hR]
  have HR := Lib.hid hR; clear hR
  cases hb1 : machB sy st rs
  · have HE := Lib.hid (show R = (([], 0), 1) by rw [← HR.out, shiftR, hb1]; rfl)
    go_enter Try.func16, Try.ntmps16
    go_wp2_with fail
    refine (l05Is_c _ _ _ _ _ _ rs false _ (by exact H.out) (by omega) hb1).mono ?_
    rintro e w1 ⟨rfl, hb⟩
    have B1 := Lib.hid (below_chain B0.out B0.out.size hb); clear hb
    go_wp2_with fail
    go_ret3
    rw [HE.out]
    exact ShOut.bad _ B1.out
  have h1p := hb1
  simp only [machB, Bool.and_eq_true, inB_iff, beq_iff_eq] at h1p
  obtain ⟨⟨⟨hsy, hst⟩, _⟩, _⟩ := h1p
  have HB1 := Lib.hid hb1
  cases hb2 : wordB ws
  · have HE := Lib.hid (show R = (([], 0), 1) by rw [← HR.out, shiftR, hb1, hb2]; rfl)
    go_enter Try.func16, Try.ntmps16
    go_wp2_with fail
    refine (l05Is_c _ _ _ _ _ _ rs true _ (by exact H.out) (by omega) hb1).mono ?_
    rintro e w1 ⟨rfl, hb⟩
    have B1 := Lib.hid (below_chain B0.out B0.out.size hb); clear hb
    go_wp2_with fail
    refine (l03Is_c _ _ _ ws false _ (by exact Rd.below H'.out B1.out) (by omega) hb2).mono ?_
    rintro e w' ⟨rfl, rfl⟩
    go_wp2_with fail
    go_ret3
    rw [HE.out]
    exact ShOut.bad _ B1.out
  have HB2 := Lib.hid hb2
  by_cases hm0 : m = 0
  · have HE := Lib.hid (show R = (([], 0), 1) by
      have : ws = [] := List.length_eq_zero_iff.1 (by rw [HL'.out, hm0])
      rw [← HR.out, shiftR, hb1, hb2, this]; rfl)
    have hm0' : ((m : Int) == 0) = true := by simp [hm0]
    clear hm0
    go_enter Try.func16, Try.ntmps16
    go_wp2_with fail
    refine (l05Is_c _ _ _ _ _ _ rs true _ (by exact H.out) (by omega) hb1).mono ?_
    rintro e w1 ⟨rfl, hb⟩
    have B1 := Lib.hid (below_chain B0.out B0.out.size hb); clear hb
    go_wp2_with fail
    refine (l03Is_c _ _ _ ws true _ (by exact Rd.below H'.out B1.out) (by omega) hb2).mono ?_
    rintro e w' ⟨rfl, rfl⟩
    go_wp2_with fail
    go_ret3
    rw [HE.out]
    exact ShOut.bad _ B1.out
  have hm0' : ((m : Int) == 0) = false := by simp; omega
  have hwp := hb2
  rw [wordB_len HL'.out] at hwp
  simp only [Bool.and_eq_true, decide_eq_true_eq] at hwp
  have hm4 : m ≤ 400 := by omega
  have HLo := Lib.hid (fun x hx => (allB_mem hwp.2 x hx).1)
  have HWN := Lib.hid (show ws ≠ [] from fun e => hm0 (by rw [← HL'.out, e]; rfl))
  have hmp : 0 < m := by omega
  clear hwp hm0
  cases hb3 : inB state 0 (st - 1)
  · have HE := Lib.hid (show R = (([], 0), 2) by rw [← HR.out, shiftR, hb1, hb2, hb3]; simp [HWN.out])
    go_enter Try.func16, Try.ntmps16
    go_wp2_with fail
    refine (l05Is_c _ _ _ _ _ _ rs true _ (by exact H.out) (by omega) hb1).mono ?_
    rintro e w1 ⟨rfl, hb⟩
    have B1 := Lib.hid (below_chain B0.out B0.out.size hb)
    have M1 := Lib.hid (H.out.below hb); clear hb
    have m0 := M1.out.c0; have m1 := M1.out.c1
    go_wp2_with fail
    refine (l03Is_c _ _ _ ws true _ (by exact Rd.below H'.out B1.out) (by omega) hb2).mono ?_
    rintro e w' ⟨rfl, rfl⟩
    go_wp2_with fail
    refine (l00In_b _ _ _ _ hb3 _).mono ?_
    rintro e w' ⟨rfl, rfl⟩
    go_wp2_with fail
    go_ret3
    rw [HE.out]
    exact ShOut.bad _ B1.out
  cases hb4 : allB 0 (sy - 1) ws
  · have HE := Lib.hid (show R = (([], 0), 2) by rw [← HR.out, shiftR, hb1, hb2, hb3, hb4]; simp [HWN.out])
    go_enter Try.func16, Try.ntmps16
    go_wp2_with fail
    refine (l05Is_c _ _ _ _ _ _ rs true _ (by exact H.out) (by omega) hb1).mono ?_
    rintro e w1 ⟨rfl, hb⟩
    have B1 := Lib.hid (below_chain B0.out B0.out.size hb)
    have M1 := Lib.hid (H.out.below hb); clear hb
    have m0 := M1.out.c0; have m1 := M1.out.c1
    go_wp2_with fail
    refine (l03Is_c _ _ _ ws true _ (by exact Rd.below H'.out B1.out) (by omega) hb2).mono ?_
    rintro e w' ⟨rfl, rfl⟩
    go_wp2_with fail
    refine (l00In_b _ _ _ _ hb3 _).mono ?_
    rintro e w' ⟨rfl, rfl⟩
    go_wp2_with fail
    refine (l03Over_c _ _ _ ws _ false _ (by exact Rd.below H'.out B1.out) (by omega) HLo.out hb4).mono ?_
    rintro e w' ⟨rfl, rfl⟩
    go_wp2_with fail
    go_ret3
    rw [HE.out]
    exact ShOut.bad _ B1.out
  by_cases hsd : side = 1 ∨ side = -1
  · have HE := Lib.hid (show shGo rs sy state side 200 0 state (shStart side ws.length) ws = R by rw [← HR.out, shiftR, hb1, hb2, hb3, hb4]; simp [HWN.out]; intro h1 h2; omega)
    have HSD := Lib.hid hsd
    have hs1 : (side != 1) = false ∨ ((side != 1) = true ∧ (side != -1) = false) := by rcases hsd with rfl | rfl <;> simp
    clear hsd
    go_enter Try.func16, Try.ntmps16
    go_wp2_with fail
    refine (l05Is_c _ _ _ _ _ _ rs true _ (by exact H.out) (by omega) hb1).mono ?_
    rintro e w1 ⟨rfl, hb⟩
    have B1 := Lib.hid (below_chain B0.out B0.out.size hb)
    have M1 := Lib.hid (H.out.below hb); clear hb
    have m0 := M1.out.c0; have m1 := M1.out.c1
    go_wp2_with fail
    refine (l03Is_c _ _ _ ws true _ (by exact Rd.below H'.out B1.out) (by omega) hb2).mono ?_
    rintro e w' ⟨rfl, rfl⟩
    go_wp2_with fail
    refine (l00In_b _ _ _ _ hb3 _).mono ?_
    rintro e w' ⟨rfl, rfl⟩
    go_wp2_with fail
    refine (l03Over_c _ _ _ ws _ true _ (by exact Rd.below H'.out B1.out) (by omega) HLo.out hb4).mono ?_
    rintro e w' ⟨rfl, rfl⟩
    have HQ := Lib.hid (inB_t hb3)
    have HWS := Lib.hid (allB_mem hb4)
    rcases hs1 with hs1 | ⟨hs1, hs2⟩
    all_goals
      go_wp2_with fail
      refine (l27Shift_c _ _ _ _ _ _ rs _ _ _ _ _ ws _ (by exact M1.out) HB1.out (by omega) (by exact Rd.below H'.out B1.out) hmp hm4 HQ.out HWS.out HSD.out).mono ?_
      rw [HE.out]
      rintro e w2 ⟨A2, n2, c2, rfl, hw2, hl2, hb2'⟩
      have W2 := Lib.hid hw2; have B2 := Lib.hid (below_chain B1.out B1.out.size hb2')
      have hz1 := B1.out.size
      clear hw2 hb2'
      go_wp2_with fail
      go_ret3
      exact ⟨A2, n2, c2, rfl, W2.out.wider hz1 (Nat.le_refl _), hl2, B2.out⟩
  · have HE := Lib.hid (show R = (([], 0), 2) by rw [← HR.out, shiftR, hb1, hb2, hb3, hb4]; simp [HWN.out]; intro h1; omega)
    have hs1 : (side != 1) = true := by simp; omega
    have hs2 : (side != -1) = true := by simp; omega
    clear hsd
    go_enter Try.func16, Try.ntmps16
    go_wp2_with fail
    refine (l05Is_c _ _ _ _ _ _ rs true _ (by exact H.out) (by omega) hb1).mono ?_
    rintro e w1 ⟨rfl, hb⟩
    have B1 := Lib.hid (below_chain B0.out B0.out.size hb)
    have M1 := Lib.hid (H.out.below hb); clear hb
    have m0 := M1.out.c0; have m1 := M1.out.c1
    go_wp2_with fail
    refine (l03Is_c _ _ _ ws true _ (by exact Rd.below H'.out B1.out) (by omega) hb2).mono ?_
    rintro e w' ⟨rfl, rfl⟩
    go_wp2_with fail
    refine (l00In_b _ _ _ _ hb3 _).mono ?_
    rintro e w' ⟨rfl, rfl⟩
    go_wp2_with fail
    refine (l03Over_c _ _ _ ws _ true _ (by exact Rd.below H'.out B1.out) (by omega) HLo.out hb4).mono ?_
    rintro e w' ⟨rfl, rfl⟩
    go_wp2_with fail
    go_ret3
    rw [HE.out]
    exact ShOut.bad _ B1.out
set_option maxHeartbeats 4000000 in
set_option maxRecDepth 100000 in
theorem iShiftOver_c (sy st : Int) (A : Option Addr) (n cp : Nat) (rs : List Rule3) (state side : Int) (A' : Option Addr) (m c' : Nat) (ws : List Int) (w : World) (h : RdS w [sgX enc3 3 A n rs]) (h' : RdI w A' m ws) (hn : n ≤ 2000000) (hn' : m ≤ 2000000) :
    Calls Try.prog 19 #[.agg #[.int .i64 sy, .int .i64 st, .slice A n cp], .int .i64 state, .slice A' m c', .int .i64 side] w (ShOut (shiftR sy st rs state ws side) w) := by
  replace h : Rd3 w A n rs := h.head
  have HL' := Lib.hid h'.len
  have H := Lib.hid (show MachP (w.alloc (.cells #[i64 sy, i64 st, .slice A n cp] 31)) w.heap.size sy st A n cp rs from ⟨new_cell _ _ _ 0, new_cell _ _ _ 1, new_cell _ _ _ 2, h.alloc _⟩)
  have H' := Lib.hid h'
  have H3 := Lib.hid h
  have B0 := Lib.hid (show Below w.heap.size w (w.alloc (.cells #[i64 sy, i64 st, .slice A n cp] 31)) from below_size.alloc (Nat.le_refl _) _)
  clear h h'
  obtain ⟨R, hR⟩ : ∃ R, shiftR sy st rs state ws side = R := ⟨_, rfl⟩
  rw [hR]
  have HR := Lib.hid hR; clear hR
  cases hb1 : machB sy st rs
  · have HE := Lib.hid (show R = (([], 0), 1) by rw [← HR.out, shiftR, hb1]; rfl)
    go_enter Try.func19, Try.ntmps19
    go_wp2_with fail
    refine (validMachine_c _ _ _ _ _ rs false _ (by exact H3.out.alloc _) (by omega) hb1).mono ?_
    rintro e w1 ⟨rfl, hb⟩
    have B1 := Lib.hid (below_chain B0.out B0.out.size hb); clear hb
    go_wp2_with fail
    go_ret3
    rw [HE.out]
    exact ShOut.bad _ B1.out
  have h1p := hb1
  simp only [machB, Bool.and_eq_true, inB_iff, beq_iff_eq] at h1p
  obtain ⟨⟨⟨hsy, hst⟩, _⟩, _⟩ := h1p
  have HB1 := Lib.hid hb1
  cases hb2 : wordB ws
  · have HE := Lib.hid (show R = (([], 0), 1) by rw [← HR.out, shiftR, hb1, hb2]; rfl)
    go_enter Try.func19, Try.ntmps19
    go_wp2_with fail
    refine (validMachine_c _ _ _ _ _ rs true _ (by exact H3.out.alloc _) (by omega) hb1).mono ?_
    rintro e w1 ⟨rfl, hb⟩
    have B1 := Lib.hid (below_chain B0.out B0.out.size hb); clear hb
    go_wp2_with fail
    refine (isWord_c _ _ _ ws false _ (by exact Rd.below H'.out B1.out) (by omega) hb2).mono ?_
    rintro e w' ⟨rfl, rfl⟩
    go_wp2_with fail
    go_ret3
    rw [HE.out]
    exact ShOut.bad _ B1.out
  have HB2 := Lib.hid hb2
  by_cases hm0 : m = 0
  · have HE := Lib.hid (show R = (([], 0), 1) by
      have : ws = [] := List.length_eq_zero_iff.1 (by rw [HL'.out, hm0])
      rw [← HR.out, shiftR, hb1, hb2, this]; rfl)
    have hm0' : ((m : Int) == 0) = true := by simp [hm0]
    clear hm0
    go_enter Try.func19, Try.ntmps19
    go_wp2_with fail
    refine (validMachine_c _ _ _ _ _ rs true _ (by exact H3.out.alloc _) (by omega) hb1).mono ?_
    rintro e w1 ⟨rfl, hb⟩
    have B1 := Lib.hid (below_chain B0.out B0.out.size hb); clear hb
    go_wp2_with fail
    refine (isWord_c _ _ _ ws true _ (by exact Rd.below H'.out B1.out) (by omega) hb2).mono ?_
    rintro e w' ⟨rfl, rfl⟩
    go_wp2_with fail
    go_ret3
    rw [HE.out]
    exact ShOut.bad _ B1.out
  have hm0' : ((m : Int) == 0) = false := by simp; omega
  have hwp := hb2
  rw [wordB_len HL'.out] at hwp
  simp only [Bool.and_eq_true, decide_eq_true_eq] at hwp
  have hm4 : m ≤ 400 := by omega
  have HLo := Lib.hid (fun x hx => (allB_mem hwp.2 x hx).1)
  have HWN := Lib.hid (show ws ≠ [] from fun e => hm0 (by rw [← HL'.out, e]; rfl))
  have hmp : 0 < m := by omega
  clear hwp hm0
  cases hb3 : inB state 0 (st - 1)
  · have HE := Lib.hid (show R = (([], 0), 2) by rw [← HR.out, shiftR, hb1, hb2, hb3]; simp [HWN.out])
    go_enter Try.func19, Try.ntmps19
    go_wp2_with fail
    refine (validMachine_c _ _ _ _ _ rs true _ (by exact H3.out.alloc _) (by omega) hb1).mono ?_
    rintro e w1 ⟨rfl, hb⟩
    have B1 := Lib.hid (below_chain B0.out B0.out.size hb)
    have M1 := Lib.hid (H.out.below hb); clear hb
    have m0 := M1.out.c0; have m1 := M1.out.c1; have m2 := M1.out.c2
    go_wp2_with fail
    refine (isWord_c _ _ _ ws true _ (by exact Rd.below H'.out B1.out) (by omega) hb2).mono ?_
    rintro e w' ⟨rfl, rfl⟩
    go_wp2_with fail
    refine (within_b _ _ _ _ hb3 _).mono ?_
    rintro e w' ⟨rfl, rfl⟩
    go_wp2_with fail
    go_ret3
    rw [HE.out]
    exact ShOut.bad _ B1.out
  cases hb4 : allB 0 (sy - 1) ws
  · have HE := Lib.hid (show R = (([], 0), 2) by rw [← HR.out, shiftR, hb1, hb2, hb3, hb4]; simp [HWN.out])
    go_enter Try.func19, Try.ntmps19
    go_wp2_with fail
    refine (validMachine_c _ _ _ _ _ rs true _ (by exact H3.out.alloc _) (by omega) hb1).mono ?_
    rintro e w1 ⟨rfl, hb⟩
    have B1 := Lib.hid (below_chain B0.out B0.out.size hb)
    have M1 := Lib.hid (H.out.below hb); clear hb
    have m0 := M1.out.c0; have m1 := M1.out.c1; have m2 := M1.out.c2
    go_wp2_with fail
    refine (isWord_c _ _ _ ws true _ (by exact Rd.below H'.out B1.out) (by omega) hb2).mono ?_
    rintro e w' ⟨rfl, rfl⟩
    go_wp2_with fail
    refine (within_b _ _ _ _ hb3 _).mono ?_
    rintro e w' ⟨rfl, rfl⟩
    go_wp2_with fail
    refine (allWithin_b _ _ _ ws _ _ _ hb4 _ (by exact Rd.below H'.out B1.out) (by omega)).mono ?_
    rintro e w' ⟨rfl, rfl⟩
    go_wp2_with fail
    go_ret3
    rw [HE.out]
    exact ShOut.bad _ B1.out
  by_cases hsd : side = 1 ∨ side = -1
  · have HE := Lib.hid (show shGo rs sy state side 200 0 state (shStart side ws.length) ws = R by rw [← HR.out, shiftR, hb1, hb2, hb3, hb4]; simp [HWN.out]; intro h1 h2; omega)
    have HSD := Lib.hid hsd
    have hs1 : (side != 1) = false ∨ ((side != 1) = true ∧ (side != -1) = false) := by rcases hsd with rfl | rfl <;> simp
    clear hsd
    go_enter Try.func19, Try.ntmps19
    go_wp2_with fail
    refine (validMachine_c _ _ _ _ _ rs true _ (by exact H3.out.alloc _) (by omega) hb1).mono ?_
    rintro e w1 ⟨rfl, hb⟩
    have B1 := Lib.hid (below_chain B0.out B0.out.size hb)
    have M1 := Lib.hid (H.out.below hb); clear hb
    have m0 := M1.out.c0; have m1 := M1.out.c1; have m2 := M1.out.c2
    go_wp2_with fail
    refine (isWord_c _ _ _ ws true _ (by exact Rd.below H'.out B1.out) (by omega) hb2).mono ?_
    rintro e w' ⟨rfl, rfl⟩
    go_wp2_with fail
    refine (within_b _ _ _ _ hb3 _).mono ?_
    rintro e w' ⟨rfl, rfl⟩
    go_wp2_with fail
    refine (allWithin_b _ _ _ ws _ _ _ hb4 _ (by exact Rd.below H'.out B1.out) (by omega)).mono ?_
    rintro e w' ⟨rfl, rfl⟩
    have HQ := Lib.hid (inB_t hb3)
    have HWS := Lib.hid (allB_mem hb4)
    rcases hs1 with hs1 | ⟨hs1, hs2⟩
    all_goals
      go_wp2_with fail
      refine (shiftOver_c _ _ _ _ _ rs _ _ _ _ _ ws _ (by exact M1.out.rd) HB1.out (by omega) (by exact Rd.below H'.out B1.out) hmp hm4 HQ.out HWS.out HSD.out).mono ?_
      rw [HE.out]
      rintro e w2 ⟨A2, n2, c2, rfl, hw2, hl2, hb2'⟩
      have W2 := Lib.hid hw2; have B2 := Lib.hid (below_chain B1.out B1.out.size hb2')
      have hz1 := B1.out.size
      clear hw2 hb2'
      go_wp2_with fail
      go_ret3
      exact ⟨A2, n2, c2, rfl, W2.out.wider hz1 (Nat.le_refl _), hl2, B2.out⟩
  · have HE := Lib.hid (show R = (([], 0), 2) by rw [← HR.out, shiftR, hb1, hb2, hb3, hb4]; simp [HWN.out]; intro h1; omega)
    have hs1 : (side != 1) = true := by simp; omega
    have hs2 : (side != -1) = true := by simp; omega
    clear hsd
    go_enter Try.func19, Try.ntmps19
    go_wp2_with fail
    refine (validMachine_c _ _ _ _ _ rs true _ (by exact H3.out.alloc _) (by omega) hb1).mono ?_
    rintro e w1 ⟨rfl, hb⟩
    have B1 := Lib.hid (below_chain B0.out B0.out.size hb)
    have M1 := Lib.hid (H.out.below hb); clear hb
    have m0 := M1.out.c0; have m1 := M1.out.c1; have m2 := M1.out.c2
    go_wp2_with fail
    refine (isWord_c _ _ _ ws true _ (by exact Rd.below H'.out B1.out) (by omega) hb2).mono ?_
    rintro e w' ⟨rfl, rfl⟩
    go_wp2_with fail
    refine (within_b _ _ _ _ hb3 _).mono ?_
    rintro e w' ⟨rfl, rfl⟩
    go_wp2_with fail
    refine (allWithin_b _ _ _ ws _ _ _ hb4 _ (by exact Rd.below H'.out B1.out) (by omega)).mono ?_
    rintro e w' ⟨rfl, rfl⟩
    go_wp2_with fail
    go_ret3
    rw [HE.out]
    exact ShOut.bad _ B1.out
end Go.Proofs.Ytdnicjeadpefnaa
