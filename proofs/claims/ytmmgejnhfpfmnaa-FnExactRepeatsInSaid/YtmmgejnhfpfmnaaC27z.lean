/-
  Contracts of chapter 27: RepeatsIn of the program.
-/
import Derived.Test.YtmmgejnhfpfmnaaC27y
import Derived.Test.YtmmgejnhfpfmnaaJoin
import Derived.Test.YtmmgejnhfpfmnaaC03
namespace Go.Proofs.Ytmmgejnhfpfmnaa
open Go.RowKit

theorem allB_app {lo hi : Int} : ∀ (xs ys : List Int), allB lo hi (xs ++ ys) = (allB lo hi xs && allB lo hi ys)
  | [], ys => by simp [allB]
  | x :: l, ys => by simp only [List.cons_append, allB, allB_app l ys, Bool.and_assoc]
set_option maxHeartbeats 8000000 in
set_option maxRecDepth 100000 in
theorem repeatsIn0_c (s : Int) (A B C : Option Addr) (la ca lb cb lc cc : Nat) (w : World) (hla : la ≤ 1000000000) (hlb : lb ≤ 1000000000) (hlc : lc ≤ 1000000000) (hx : lenN la lb lc = false) :
    Calls Try.prog 54 #[.int .i64 s, .slice A la ca, .slice B lb cb, .slice C lc cc] w (FoOut (zeroF, 7) w) := by
  have hx2 := of_decide_eq_false (show decide (0 < la ∧ la ≤ 40 ∧ la + 1 ≤ lb ∧ lb ≤ la + 8 ∧ (lc : Int) - lb = (lb : Int) - la) = false from hx)
  have Z := Blk.new w 29 #[i64 0, i64 0, i64 0, .slice none 0 0, .slice none 0 0, .slice none 0 0]
  have r0 := Z.cell 0; have r1 := Z.cell 1; have r2 := Z.cell 2; have r3 := Z.cell 3; have r4 := Z.cell 4; have r5 := Z.cell 5
  have f0 := Z.frozen 0; have f1 := Z.frozen 1; have f2 := Z.frozen 2; have f3 := Z.frozen 3; have f4 := Z.frozen 4; have f5 := Z.frozen 5
  simp at r0 r1 r2 r3 r4 r5
  have BZ := Lib.hid (show Below w.heap.size w (w.alloc (.cells #[i64 0, i64 0, i64 0, .slice none 0 0, .slice none 0 0, .slice none 0 0] 29)) from below_size.alloc (Nat.le_refl _) _)
  have HX := Lib.hid hx2
  clear Z hx hx2
  cases ka : inB (la : Int) 1 40
  · go_enter Try.func54, Try.ntmps54
    go_wp2_with first
      | (go_at_call 92; refine (sizeI_c _ _ _ _ (by omega)).mono ?_; rintro e w' ⟨rfl, rfl⟩)
      | (go_at_call 51; refine (within_b _ _ _ _ ka _).mono ?_; rintro e w' ⟨rfl, rfl⟩)
    refine bodyPost_ret (v := .tuple #[.agg #[i64 0, i64 0, i64 0, .slice none 0 0, .slice none 0 0, .slice none 0 0], i64 7]) (by simp [results, Try.results54, go_sem, r0, r1, r2, r3, r4, r5]) rfl ?_
    exact FoOut.bad 7 (by first | with_reducible exact BZ.out | with_reducible exact below_set6 BZ.out (Nat.le_refl _))
  have hka := inB_t ka
  by_cases k1 : (lb : Int) - la < 1
  · have k1' : decide ((lb : Int) - (la : Int) < 1) = true := decide_eq_true k1
    go_enter Try.func54, Try.ntmps54
    go_wp2_with first
      | (go_at_call 92; refine (sizeI_c _ _ _ _ (by omega)).mono ?_; rintro e w' ⟨rfl, rfl⟩)
      | (go_at_call 51; refine (within_b _ _ _ _ ka _).mono ?_; rintro e w' ⟨rfl, rfl⟩)
    refine bodyPost_ret (v := .tuple #[.agg #[i64 0, i64 0, i64 0, .slice none 0 0, .slice none 0 0, .slice none 0 0], i64 7]) (by simp [results, Try.results54, go_sem, r0, r1, r2, r3, r4, r5]) rfl ?_
    exact FoOut.bad 7 (by first | with_reducible exact BZ.out | with_reducible exact below_set6 BZ.out (Nat.le_refl _))
  have k1' : decide ((lb : Int) - (la : Int) < 1) = false := decide_eq_false k1
  by_cases k8 : 8 < (lb : Int) - la
  · have k8' : decide (8 < (lb : Int) - (la : Int)) = true := decide_eq_true k8
    go_enter Try.func54, Try.ntmps54
    go_wp2_with first
      | (go_at_call 92; refine (sizeI_c _ _ _ _ (by omega)).mono ?_; rintro e w' ⟨rfl, rfl⟩)
      | (go_at_call 51; refine (within_b _ _ _ _ ka _).mono ?_; rintro e w' ⟨rfl, rfl⟩)
    refine bodyPost_ret (v := .tuple #[.agg #[i64 0, i64 0, i64 0, .slice none 0 0, .slice none 0 0, .slice none 0 0], i64 7]) (by simp [results, Try.results54, go_sem, r0, r1, r2, r3, r4, r5]) rfl ?_
    exact FoOut.bad 7 (by first | with_reducible exact BZ.out | with_reducible exact below_set6 BZ.out (Nat.le_refl _))
  have k8' : decide (8 < (lb : Int) - (la : Int)) = false := decide_eq_false k8
  have k9 : (((lc : Int) - (lb : Int)) != ((lb : Int) - (la : Int))) = true := by
    have := HX.out
    simp; omega
  go_enter Try.func54, Try.ntmps54
  go_wp2_with first
    | (go_at_call 92; refine (sizeI_c _ _ _ _ (by omega)).mono ?_; rintro e w' ⟨rfl, rfl⟩)
    | (go_at_call 51; refine (within_b _ _ _ _ ka _).mono ?_; rintro e w' ⟨rfl, rfl⟩)
  refine bodyPost_ret (v := .tuple #[.agg #[i64 0, i64 0, i64 0, .slice none 0 0, .slice none 0 0, .slice none 0 0], i64 7]) (by simp [results, Try.results54, go_sem, r0, r1, r2, r3, r4, r5]) rfl ?_
  exact FoOut.bad 7 (by first | with_reducible exact BZ.out | with_reducible exact below_set6 BZ.out (Nat.le_refl _))
theorem repeatsIn_c (s : Int) (A B C : Option Addr) (la ca lb cb lc cc : Nat) (a b c : List Int) (w : World) (ha : RdI w A la a) (hb : RdI w B lb b) (hc : RdI w C lc c) (hla : la ≤ 1000000000) (hlb : lb ≤ 1000000000) (hlc : lc ≤ 1000000000) (hca : la ≤ ca) (hcb : lb ≤ cb) :
    Calls Try.prog 54 #[.int .i64 s, .slice A la ca, .slice B lb cb, .slice C lc cc] w (FoOut (if lenN la lb lc then foundF s (findF a b c (lb - la)) else (zeroF, 7)) w) := by
  cases hx : lenN la lb lc
  · exact repeatsIn0_c s A B C la ca lb cb lc cc w hla hlb hlc hx
  · obtain ⟨q1, q2, q3, q4, q5⟩ := of_decide_eq_true (show decide (0 < la ∧ la ≤ 40 ∧ la + 1 ≤ lb ∧ lb ≤ la + 8 ∧ (lc : Int) - lb = (lb : Int) - la) = true from hx)
    exact repeatsIn1_c s A B C la ca lb cb lc cc a b c (lb - la) w ha hb hc ⟨q1, q2⟩ (by omega) (by omega) (by omega) hca hcb
set_option maxHeartbeats 8000000 in
set_option maxRecDepth 100000 in
theorem iRepeatsIn_f (sy st : Int) (A : Option Addr) (n cp : Nat) (rs : List Rule3) (s : Int) (A1 : Option Addr) (n1 c1 : Nat) (a : List Int) (A2 : Option Addr) (n2 c2 : Nat) (b : List Int) (A3 : Option Addr) (n3 c3 : Nat) (c : List Int) (w : World)
    (h : RdS w [sgX enc3 3 A n rs]) (h' : RdI w A1 n1 a) (h'' : RdI w A2 n2 b) (h''' : RdI w A3 n3 c) (hn : n ≤ 2000000) (hn' : n1 ≤ 2000000) (hn'' : n2 ≤ 2000000) (hn''' : n3 ≤ 2000000) (hnc1 : n1 ≤ c1) (hnc2 : n2 ≤ c2) :
    Calls Try.prog 12 #[.agg #[.int .i64 sy, .int .i64 st, .slice A n cp], .int .i64 s, .slice A1 n1 c1, .slice A2 n2 c2, .slice A3 n3 c3] w (FoOut (rpR sy st rs s a b c) w) := by
  replace h : Rd3 w A n rs := h.head
  have HL1 := Lib.hid h'.len; have HL2 := Lib.hid h''.len; have HL3 := Lib.hid h'''.len
  obtain ⟨w0, hw0⟩ : ∃ w0, (w.alloc (.cells #[i64 sy, i64 st, .slice A n cp] 34)).alloc (.cells #[i64 0, i64 0, i64 0, .slice none 0 0, .slice none 0 0, .slice none 0 0] 29) = w0 := ⟨_, rfl⟩
  have B0 := Lib.hid (show Below w.heap.size w w0 by rw [← hw0]; exact (below_size.alloc (Nat.le_refl _) _).alloc (by simp) _)
  have M0 := Lib.hid (show Blk w0 w.heap.size 34 #[i64 sy, i64 st, .slice A n cp] by rw [← hw0]; exact (Blk.new w _ _).alloc _)
  have Z0 := Lib.hid (show Blk w0 (w.heap.size + 1) 29 #[i64 0, i64 0, i64 0, .slice none 0 0, .slice none 0 0, .slice none 0 0] by
    have := Blk.new (w.alloc (.cells #[i64 sy, i64 st, .slice A n cp] 34)) 29 #[i64 0, i64 0, i64 0, .slice none 0 0, .slice none 0 0, .slice none 0 0]
    rw [World.size_alloc] at this
    rw [← hw0]; exact this)
  have HM := Lib.hid (Rd.below h B0.out)
  have HA := Lib.hid h'; have HB := Lib.hid h''; have HC := Lib.hid h'''
  obtain ⟨u1, i1⟩ : ∃ u, machB sy st rs = u := ⟨_, rfl⟩
  obtain ⟨u2, i2⟩ : ∃ u, (wordB a && (wordB b && wordB c)) = u := ⟨_, rfl⟩
  obtain ⟨v1, j1⟩ : ∃ u, inB s 0 (st - 1) = u := ⟨_, rfl⟩
  obtain ⟨v2, j2⟩ : ∃ u, allB 0 (sy - 1) (a ++ (b ++ c)) = u := ⟨_, rfl⟩
  obtain ⟨R, hR⟩ : ∃ R, rpR sy st rs s a b c = R := ⟨_, rfl⟩
  have HR := Lib.hid (show R = if !(u1 && u2) then (zeroF, 1) else if !(v1 && v2) then (zeroF, 2) else (if lenN n1 n2 n3 then foundF s (findF a b c (n2 - n1)) else (zeroF, 7)) by
    rw [← hR, rpR, ← i1, ← i2, ← j1, ← j2, lenB_eq h'.len h''.len h'''.len, h'.len, h''.len, allB_app, allB_app]
    simp only [Bool.and_assoc])
  rw [hR]
  have I1 := Lib.hid i1; have I2 := Lib.hid i2; have J1 := Lib.hid j1; have J2 := Lib.hid j2
  have p0 := M0.out.cell 0; have p1 := M0.out.cell 1; have p2 := M0.out.cell 2
  simp at p0 p1 p2
  clear h h' h'' h''' hR i1 i2 j1 j2
  go_enter Try.func12, Try.ntmps12
  go_wp2_with fail
  refine (validMachine_c sy st A n cp rs u1 _ (by exact HM.out) (by omega) I1.out).mono ?_
  rintro e w1 ⟨rfl, hb⟩
  have Z1 := Lib.hid (Z0.out.keep hb); have M1 := Lib.hid (M0.out.keep hb); have B1 := Lib.hid (below_chain B0.out B0.out.size hb)
  clear hb hw0 Z0 M0 B0 HM p0 p1 p2
  cases u1
  · have r0 := Z1.out.cell 0; have r1 := Z1.out.cell 1; have r2 := Z1.out.cell 2; have r3 := Z1.out.cell 3; have r4 := Z1.out.cell 4; have r5 := Z1.out.cell 5
    have f0 := Z1.out.frozen 0; have f1 := Z1.out.frozen 1; have f2 := Z1.out.frozen 2; have f3 := Z1.out.frozen 3; have f4 := Z1.out.frozen 4; have f5 := Z1.out.frozen 5
    simp at r0 r1 r2 r3 r4 r5
    go_wp2_with fail
    refine bodyPost_ret (v := .tuple #[.agg #[i64 0, i64 0, i64 0, .slice none 0 0, .slice none 0 0, .slice none 0 0], i64 1]) (by simp [results, Try.results12, go_sem, r0, r1, r2, r3, r4, r5]) rfl ?_
    rw [show R = (zeroF, 1) from HR.out]
    exact FoOut.bad 1 (below_set6 B1.out (by omega))
  have h1p := I1.out
  simp only [machB, Bool.and_eq_true, inB_iff, beq_iff_eq] at h1p
  obtain ⟨⟨⟨hsy, hst⟩, _⟩, _⟩ := h1p
  obtain ⟨w2, hw2⟩ : ∃ w2, w1.alloc (.cells #[.slice A1 n1 c1, .slice A2 n2 c2, .slice A3 n3 c3] 25) = w2 := ⟨_, rfl⟩
  have E2 : Below w1.heap.size w1 w2 := by rw [← hw2]; exact below_size.alloc (Nat.le_refl _) _
  have Q2 := Lib.hid (show Blk w2 w1.heap.size 25 #[hdI ⟨A1, n1, c1, a⟩, hdI ⟨A2, n2, c2, b⟩, hdI ⟨A3, n3, c3, c⟩] by rw [← hw2]; exact Blk.new w1 _ _)
  have Z2 := Lib.hid (Z1.out.keep E2); have M2 := Lib.hid (M1.out.keep E2); have B2 := Lib.hid (B1.out.trans (E2.mono B1.out.size))
  clear E2 Z1 M1
  go_wp2_with fail
  refine (areWords_c _ 3 _ [⟨A1, n1, c1, a⟩, ⟨A2, n2, c2, b⟩, ⟨A3, n3, c3, c⟩] u2 _ (by exact rdII3 Q2.out (RdI.below HA.out B2.out) (RdI.below HB.out B2.out) (RdI.below HC.out B2.out)) (by omega) (by intro t ht; simp at ht; rcases ht with rfl | rfl | rfl <;> (simp; omega)) (by rw [← I2.out, wordsB_all]; simp)).mono ?_
  rintro e w' ⟨rfl, rfl⟩
  cases u2
  · have r0 := Z2.out.cell 0; have r1 := Z2.out.cell 1; have r2 := Z2.out.cell 2; have r3 := Z2.out.cell 3; have r4 := Z2.out.cell 4; have r5 := Z2.out.cell 5
    have f0 := Z2.out.frozen 0; have f1 := Z2.out.frozen 1; have f2 := Z2.out.frozen 2; have f3 := Z2.out.frozen 3; have f4 := Z2.out.frozen 4; have f5 := Z2.out.frozen 5
    simp at r0 r1 r2 r3 r4 r5
    go_wp2_with fail
    refine bodyPost_ret (v := .tuple #[.agg #[i64 0, i64 0, i64 0, .slice none 0 0, .slice none 0 0, .slice none 0 0], i64 1]) (by simp [results, Try.results12, go_sem, r0, r1, r2, r3, r4, r5]) rfl ?_
    rw [show R = (zeroF, 1) from HR.out]
    exact FoOut.bad 1 (below_set6 B2.out (by omega))
  have q0 := M2.out.cell 0; have q1 := M2.out.cell 1
  simp at q0 q1
  have x0 := Ext.cell q0; have x1 := Ext.cell q1
  have vst : IntKind.i64.wrap (st - 1) = st - 1 := IntWalk.i64_in _ (by omega)
  have vsy : IntKind.i64.wrap (sy - 1) = sy - 1 := IntWalk.i64_in _ (by omega)
  clear hw2
  go_wp2_with fail
  refine Mix.wp_region_mix [0, 0, 3, 0, 1, 0, 0, 0, 0, 0, 1, 1, 0, 3, 0, 1, 0, 0] (fun w' => ∃ x : Ext w2, w' = x.w) (by kernel_rfl) (by kernel_rfl) (InExt.drew _) ?_
  repeat (first | (refine Mix.wpMix_read (by rfl) ?_; go_big_quiet_step (fail); refine wpQuiet_nil ?_) | (refine Mix.wpMix_pure (by rfl) ?_; go_big_quiet_step (fail); refine wpQuiet_nil ?_))
  refine Mix.wpMix_chg (by rfl) (fun K hK => ?_)
  go_wp2_with fail
  refine (within_b _ _ _ _ J1.out _).mono ?_
  rintro e w' ⟨rfl, rfl⟩
  cases v1
  · skip
    go_wp2_with fail
    refine hK _ _ ⟨⟨_, below_drew below_size⟩, rfl⟩ ?_
    clear hK K
    repeat (first | (refine Mix.wpMix_read (by rfl) ?_; go_big_quiet_step (fail); refine wpQuiet_nil ?_) | (refine Mix.wpMix_pure (by rfl) ?_; go_big_quiet_step (fail); refine wpQuiet_nil ?_))
    refine Mix.wpMix_skip (by rfl) ?_
    simp only [Act.put, List.setIfInBounds_toArray, List.set_cons_succ, List.set_cons_zero]
    refine Mix.wpMix_skip (by rfl) ?_
    simp only [Act.put, List.setIfInBounds_toArray, List.set_cons_succ, List.set_cons_zero]
    repeat (first | (refine Mix.wpMix_read (by rfl) ?_; go_big_quiet_step (fail); refine wpQuiet_nil ?_) | (refine Mix.wpMix_pure (by rfl) ?_; go_big_quiet_step (fail); refine wpQuiet_nil ?_))
    refine Mix.wpMix_skip (by rfl) ?_
    simp only [Act.put, List.setIfInBounds_toArray, List.set_cons_succ, List.set_cons_zero]
    repeat (first | (refine Mix.wpMix_read (by rfl) ?_; go_big_quiet_step (fail); refine wpQuiet_nil ?_) | (refine Mix.wpMix_pure (by rfl) ?_; go_big_quiet_step (fail); refine wpQuiet_nil ?_))
    (refine Mix.wpMix_nil ?_; try simp only [Exit.then])
    obtain ⟨w9, hw9⟩ : ∃ w9, w2.drew = w9 := ⟨_, rfl⟩
    have E9 : Below w2.heap.size w2 w9 := by rw [← hw9]; exact below_drew below_size
    rw [hw9]
    have Z3 := Lib.hid (Z2.out.keep E9); have B3 := Lib.hid (B2.out.trans (E9.mono B2.out.size))
    clear hw9 E9 x0 x1 q0 q1
    have r0 := Z3.out.cell 0; have r1 := Z3.out.cell 1; have r2 := Z3.out.cell 2; have r3 := Z3.out.cell 3; have r4 := Z3.out.cell 4; have r5 := Z3.out.cell 5
    have f0 := Z3.out.frozen 0; have f1 := Z3.out.frozen 1; have f2 := Z3.out.frozen 2; have f3 := Z3.out.frozen 3; have f4 := Z3.out.frozen 4; have f5 := Z3.out.frozen 5
    simp at r0 r1 r2 r3 r4 r5
    go_wp2_with fail
    refine bodyPost_ret (v := .tuple #[.agg #[i64 0, i64 0, i64 0, .slice none 0 0, .slice none 0 0, .slice none 0 0], i64 2]) (by simp [results, Try.results12, go_sem, r0, r1, r2, r3, r4, r5]) rfl ?_
    rw [show R = (zeroF, 2) from HR.out]
    exact FoOut.bad 2 (below_set6 B3.out (by omega))
  go_wp2_with fail
  refine hK _ _ ⟨⟨_, below_drew below_size⟩, rfl⟩ ?_
  clear hK K
  repeat (first | (refine Mix.wpMix_read (by rfl) ?_; go_big_quiet_step (fail); refine wpQuiet_nil ?_) | (refine Mix.wpMix_pure (by rfl) ?_; go_big_quiet_step (fail); refine wpQuiet_nil ?_))
  refine Mix.wpMix_chg (by rfl) (fun K hK => ?_)
  go_wp2_with fail
  refine hK _ _ ⟨⟨_, below_drew (below_size.alloc (Nat.le_refl _) _)⟩, rfl⟩ ?_
  clear hK K
  obtain ⟨w3, hw3⟩ : ∃ w3, (w2.alloc (.cells #[.slice A1 n1 c1, .slice A2 n2 c2, .slice A3 n3 c3] 25)).drew = w3 := ⟨_, rfl⟩
  have E3 := Lib.hid (show Below w2.heap.size w2 w3 by rw [← hw3]; exact below_drew (below_size.alloc (Nat.le_refl _) _))
  have Q3 := Lib.hid (show Blk w3 w2.heap.size 25 #[.slice A1 n1 c1, .slice A2 n2 c2, .slice A3 n3 c3] by rw [← hw3]; exact (Blk.new w2 _ _).drew)
  have B3 := Lib.hid (B2.out.trans (E3.out.mono B2.out.size))
  have hz3 := E3.out.size
  rw [hw3]
  clear hw3
  repeat (first | (refine Mix.wpMix_read (by rfl) ?_; go_big_quiet_step (fail); refine wpQuiet_nil ?_) | (refine Mix.wpMix_pure (by rfl) ?_; go_big_quiet_step (fail); refine wpQuiet_nil ?_))
  refine Mix.wpMix_chg (by rfl) (fun K hK => ?_)
  go_wp2_with fail
  refine (joined_c _ 3 3 _ _ (by exact rdV3 Q3.out (RdI.below HA.out B3.out) (RdI.below HB.out B3.out) (RdI.below HC.out B3.out)) (by omega) (by simp only [sumV]; omega)).mono ?_
  rintro e w4 ⟨Aj, cj, rfl, hwj, hcj, hbj⟩
  have E4 := Lib.hid (below_chain E3.out hz3 hbj)
  have W4 := Lib.hid (show RdI w4 Aj (sumV [⟨A1, n1, c1, a.map i64⟩, ⟨A2, n2, c2, b.map i64⟩, ⟨A3, n3, c3, c.map i64⟩]) (a ++ (b ++ c)) by
    have h1 := hwj.rd
    rw [Nat.mul_one] at h1
    simpa [RdI, ItV.vs] using h1)
  have hN : sumV [⟨A1, n1, c1, a.map i64⟩, ⟨A2, n2, c2, b.map i64⟩, ⟨A3, n3, c3, c.map i64⟩] ≤ 100000000 := by simp only [sumV]; omega
  clear hwj hcj hbj
  generalize sumV [⟨A1, n1, c1, a.map i64⟩, ⟨A2, n2, c2, b.map i64⟩, ⟨A3, n3, c3, c.map i64⟩] = N at W4 hN ⊢
  go_wp2_with fail
  refine hK _ _ ⟨⟨_, E4.out⟩, rfl⟩ ?_
  clear hK K
  repeat (first | (refine Mix.wpMix_read (by rfl) ?_; go_big_quiet_step (fail); refine wpQuiet_nil ?_) | (refine Mix.wpMix_pure (by rfl) ?_; go_big_quiet_step (fail); refine wpQuiet_nil ?_))
  refine Mix.wpMix_chg (by rfl) (fun K hK => ?_)
  go_wp2_with fail
  refine (allWithin_b _ _ _ (a ++ (b ++ c)) _ _ v2 J2.out _ (by exact W4.out) (by omega)).mono ?_
  rintro e w' ⟨rfl, rfl⟩
  go_wp2_with fail
  refine hK _ _ ⟨⟨_, E4.out⟩, rfl⟩ ?_
  clear hK K
  repeat (first | (refine Mix.wpMix_read (by rfl) ?_; go_big_quiet_step (fail); refine wpQuiet_nil ?_) | (refine Mix.wpMix_pure (by rfl) ?_; go_big_quiet_step (fail); refine wpQuiet_nil ?_))
  (refine Mix.wpMix_nil ?_; try simp only [Exit.then])
  have Z4 := Lib.hid (Z2.out.keep E4.out); have B4 := Lib.hid (B2.out.trans (E4.out.mono B2.out.size))
  clear x0 x1 q0 q1
  have r0 := Z4.out.cell 0; have r1 := Z4.out.cell 1; have r2 := Z4.out.cell 2; have r3 := Z4.out.cell 3; have r4 := Z4.out.cell 4; have r5 := Z4.out.cell 5
  have f0 := Z4.out.frozen 0; have f1 := Z4.out.frozen 1; have f2 := Z4.out.frozen 2; have f3 := Z4.out.frozen 3; have f4 := Z4.out.frozen 4; have f5 := Z4.out.frozen 5
  simp at r0 r1 r2 r3 r4 r5
  cases v2
  · go_wp2_with fail
    refine bodyPost_ret (v := .tuple #[.agg #[i64 0, i64 0, i64 0, .slice none 0 0, .slice none 0 0, .slice none 0 0], i64 2]) (by simp [results, Try.results12, go_sem, r0, r1, r2, r3, r4, r5]) rfl ?_
    rw [show R = (zeroF, 2) from HR.out]
    exact FoOut.bad 2 (below_set6 B4.out (by omega))
  clear r0 r1 r2 r3 r4 r5 f0 f1 f2 f3 f4 f5
  obtain ⟨RR, hRR⟩ : ∃ RR, (if lenN n1 n2 n3 then foundF s (findF a b c (n2 - n1)) else (zeroF, 7)) = RR := ⟨_, rfl⟩
  have hrep := repeatsIn_c s A1 A2 A3 n1 c1 n2 c2 n3 c3 a b c w4 (RdI.below HA.out B4.out) (RdI.below HB.out B4.out) (RdI.below HC.out B4.out) (by omega) (by omega) (by omega) hnc1 hnc2
  rw [hRR] at hrep
  have HE := Lib.hid (show R = RR by rw [← hRR]; exact HR.out)
  have HREP := Lib.hid hrep
  clear hrep hRR HR
  go_wp2_with fail
  refine HREP.out.mono ?_
  rintro e w5 ⟨E0, m0, d0, its0, E1, m1, d1, its1, E2, m2, d2, rfl, hfo, hb5⟩
  have HFO := Lib.hid hfo; have B5 := Lib.hid (below_chain B4.out B4.out.size hb5); have Z5 := Lib.hid (Z4.out.keep hb5)
  have hz5 := hb5.size
  have hl5 := Z4.out.lt
  have s0 := Z5.out.cell 0; have s1 := Z5.out.cell 1; have s2 := Z5.out.cell 2; have s3 := Z5.out.cell 3; have s4 := Z5.out.cell 4; have s5 := Z5.out.cell 5
  have f0 := Z5.out.frozen 0; have f1 := Z5.out.frozen 1; have f2 := Z5.out.frozen 2; have f3 := Z5.out.frozen 3; have f4 := Z5.out.frozen 4; have f5 := Z5.out.frozen 5
  simp at s0 s1 s2 s3 s4 s5
  clear HREP hfo hb5
  go_wp2_with fail
  refine bodyPost_ret (v := .tuple #[.agg #[i64 RR.1.1, i64 RR.1.2.1, i64 RR.1.2.2.1, .slice E0 m0 d0, .slice E1 m1 d1, .slice E2 m2 d2], i64 RR.2]) (by simp [results, Try.results12, go_sem, s0, s1, s2, s3, s4, s5]) rfl ?_
  rw [HE.out]
  obtain ⟨h1, h2, h3, h4, h5, h6, h7, h8⟩ := HFO.out
  exact ⟨E0, m0, d0, its0, E1, m1, d1, its1, E2, m2, d2, rfl, ⟨((h1.set6 hl5).wider (by have := B4.out.size; omega) (by simp)), h2, h3, h4, h5, h6, h7, h8⟩, below_set6 B5.out (by omega)⟩
theorem iRepeatsIn_c (sy st : Int) (A : Option Addr) (n cp : Nat) (rs : List Rule3) (s : Int) (A1 : Option Addr) (n1 : Nat) (a : List Int) (A2 : Option Addr) (n2 : Nat) (b : List Int) (A3 : Option Addr) (n3 c3 : Nat) (c : List Int) (w : World)
    (h : RdS w [sgX enc3 3 A n rs]) (h' : RdI w A1 n1 a) (h'' : RdI w A2 n2 b) (h''' : RdI w A3 n3 c) (hn : n ≤ 2000000) (hn' : n1 ≤ 2000000) (hn'' : n2 ≤ 2000000) (hn''' : n3 ≤ 2000000) :
    Calls Try.prog 12 #[.agg #[.int .i64 sy, .int .i64 st, .slice A n cp], .int .i64 s, .slice A1 n1 n1, .slice A2 n2 n2, .slice A3 n3 c3] w (FoOut2 (rpR sy st rs s a b c) w) :=
  (iRepeatsIn_f sy st A n cp rs s A1 n1 n1 a A2 n2 n2 b A3 n3 c3 c w h h' h'' h''' hn hn' hn'' hn''' (Nat.le_refl _) (Nat.le_refl _)).mono fun _ _ h => h.two
end Go.Proofs.Ytmmgejnhfpfmnaa
