/-
  Contracts of chapter 18: the number of a combinator term, the program's.
-/
import Derived.Test.YtfgnhdmiglobhaaC18d
namespace Go.Proofs.Ytfgnhdmiglobhaa
open Go.RowKit

theorem two_blks (w : World) (a b : Array Value) (ta tb : TypeId) : Blk ((w.alloc (.cells a ta)).alloc (.cells b tb)) w.heap.size ta a ∧ Blk ((w.alloc (.cells a ta)).alloc (.cells b tb)) (w.heap.size + 1) tb b := by
  refine ⟨(Blk.new w _ _).alloc _, ?_⟩
  have := Blk.new (w.alloc (.cells a ta)) tb b
  rw [World.size_alloc] at this; exact this
set_option maxHeartbeats 4000000 in
set_option maxRecDepth 100000 in
theorem numeralOfComb_c (A : Option Addr) (n cp : Nat) (c : List (Int × Int)) (b : Nat) (R : Int × Int × Int) (w : World) (h : Rd2 w A n c) (hv : validC c = true) (hb : inB (b : Int) 1 20000 = true) (hR : nuN c b = R) :
    Calls Try.prog 37 #[.slice A n cp, .int .i64 b] w fun e w' => e = .returned (.tuple #[.int .i64 R.1, .int .i64 R.2.1, .int .i64 R.2.2]) ∧ Below w.heap.size w w' := by
  obtain ⟨hv1, hv2, hv3⟩ := validC_end hv
  have hl := h.len
  rw [hl] at hv2 hv3
  have H := Lib.hid h; have HL := Lib.hid hl; have HB0 := Lib.hid hb
  have hTl : (appV c [0, 1]).length = n + 4 := by rw [appV_len, hl]; rfl
  obtain ⟨Y, hY⟩ : ∃ Y, nmR (appV c [0, 1]) b = Y := ⟨_, rfl⟩
  have HY := Lib.hid hY
  obtain ⟨X, hX⟩ : ∃ X, runC b (appV c [0, 1]) 0 = X := ⟨_, rfl⟩
  have HVT := Lib.hid (show validC (appV c [0, 1]) = decide (n + 4 ≤ 400) by rw [validC_appV hv [0, 1] (by decide), hTl])
  have HK := Lib.hid (show Y.2.2 = 0 ∧ (∃ s : Nat, Y.2.1 = s ∧ (if cntR Y.1 = true then ((((Y.1.length - 1) / 2 : Nat) : Int), (s : Int), (0 : Int)) else ((0 : Int), (0 : Int), (3 : Int))) = R) ∧ validC Y.1 = true ∨ Y = ([], 0, 5) ∧ ((0 : Int), (0 : Int), (5 : Int)) = R by
    by_cases h4 : n + 4 ≤ 400
    · have hvt : validC (appV c [0, 1]) = true := by rw [HVT.out, decide_eq_true_eq]; exact h4
      have e1 : nmX X = Y := by rw [← hY, nmR, if_pos hvt, hX]
      have e2 : nuX X = R := by rw [← hR, nuN, if_pos (by rw [hTl]; exact h4), hX]
      cases X with
      | none => exact .inr ⟨e1.symm, e2⟩
      | some x =>
        obtain ⟨o, s, q⟩ := x
        cases q
        · exact .inr ⟨e1.symm, e2⟩
        · refine .inl ?_
          rw [← e1]
          exact ⟨rfl, ⟨s, rfl, e2⟩, (runC_valid hvt hX).1⟩
    · refine .inr ⟨?_, ?_⟩
      · rw [← hY, nmR, if_neg]; rw [HVT.out, decide_eq_true_eq]; exact h4
      · rw [← hR, nuN, if_neg (by rw [hTl]; exact h4)])
  clear h hl hv hv1 hR hY hX hb hTl HVT
  go_enter Try.func37, Try.ntmps37
  go_wp2_with (go_at_call 45; refine (combVar_c _ _).mono ?_; rintro e w1 ⟨rfl, rfl⟩)
  have BS := three_blks w #[.int .i64 4, .int .i64 0] #[.int .i64 4, .int .i64 1] #[.slice (some ⟨w.heap.size, 0, none⟩) 1 1, .slice (some ⟨w.heap.size + 1, 0, none⟩) 1 1] 50 50 24
  refine (applyComb_c A n cp c _ 2 2 (n + 4) [itV1 w.heap.size 0, itV1 (w.heap.size + 1) 1] _ (((H.out.alloc _).alloc _).alloc _) (rdVC BS.2.2 (by simp [hdV, itV1, itC]) rfl (fun i hi => by
    simp only [List.mem_cons, List.not_mem_nil, or_false] at hi
    rcases hi with rfl | rfl
    · exact itV1_ok BS.1
    · exact itV1_ok BS.2.1)) (by omega) (by omega) (by simp [sumV, itV1, itC]) (by simp [sumV, itV1, itC]; omega)).mono ?_
  rintro e w1 ⟨A1, c1, rfl, hw1, hc1, hb1⟩
  have B1 := Lib.hid (up3 hb1)
  have W1 := Lib.hid (show Rd2 w1 A1 (n + 4) (appV c [0, 1]) by
    have := hw1.rd
    simpa [Rd2, appV, varT, itV1, itC, List.flatMap_append, List.append_assoc] using this)
  clear hw1 hb1 BS
  go_wp2_with fail
  refine (normalComb_c _ _ c1 _ b Y _ W1.out (by omega) HB0.out HY.out).mono ?_
  rintro e w2 ⟨A2, N2, c2, rfl, hr2, hN2, hb2⟩
  have B2 := Lib.hid (below_chain B1.out B1.out.size hb2); have R2 := Lib.hid hr2
  clear hr2 hb2 W1 HY
  rcases HK.out with ⟨k1, ⟨s, k2, k3⟩, k4⟩ | ⟨k1, k2⟩
  case inr =>
    subst k1
    have HG := Lib.hid k2
    clear HK k2
    go_wp2_with fail
    go_ret3
    rw [← HG.out]
    exact ⟨rfl, B2.out⟩
  obtain ⟨o, y1, y2⟩ := Y
  simp only at k1 k2 k3 k4 R2
  subst k1; subst k2
  have hve := validC_end k4
  have hol := R2.out.len
  rw [hol] at hve k3
  have hN1 := hve.2.1
  have hN4 := hve.2.2
  have HCN := Lib.hid (cntR_num (validC_all k4))
  have HG := Lib.hid k3
  have HOL := Lib.hid hol
  clear HK k3 k4 hve hol
  obtain ⟨z, hz⟩ : ∃ z, (N2 - 1) / 2 = z := ⟨_, rfl⟩
  rw [hz] at HG
  have vz : ((N2 : Int) - 1) / 2 = (z : Int) := by omega
  have vz' : ((N2 : Int) - 1).tdiv 2 = (z : Int) := by rw [Int.tdiv_eq_ediv_of_nonneg (by omega)]; exact vz
  have HZ := Lib.hid hz
  clear hz
  go_wp2_with (first
    | (go_at_call 59; refine (sizeComb_c _ _ _ _ (by omega)).mono ?_; rintro e w' ⟨rfl, rfl⟩)
    | (go_at_call 45; refine (combVar_c _ _).mono ?_; rintro e w3 ⟨rfl, rfl⟩))
  have B3 := Lib.hid (show Below w.heap.size w (w2.alloc (.cells #[.int .i64 4, .int .i64 1] 50)) from B2.out.alloc B2.out.size _)
  have S3 := Lib.hid (show Rd2 (w2.alloc (.cells #[.int .i64 4, .int .i64 1] 50)) (some ⟨w2.heap.size, 0, none⟩) 1 (numC 0) from (Blk.new w2 _ _).rd rfl (by simp))
  have R3 := Lib.hid (show Below w2.heap.size w2 (w2.alloc (.cells #[.int .i64 4, .int .i64 1] 50)) from below_size.alloc (Nat.le_refl _) _)
  go_loopw [11, 32] (fun nv kv wr => ∃ (k N cc : Nat) (A : Option Addr), k ≤ z ∧ kv = .int .i64 k ∧ nv = .slice A N cc ∧ Hid (N = 2 * k + 1) ∧ Hid (Rd2 wr A N (numC k)) ∧ Below w2.heap.size w2 wr ∧ Below w.heap.size w wr) (fun _ kv _ => z - (intOf kv).toNat)
  case atStart => exact ⟨0, 1, 1, some ⟨w2.heap.size, 0, none⟩, by omega, rfl, rfl, rfl, S3.out, R3.out, B3.out⟩
  case round =>
    obtain ⟨k, N, cc, A, hk, rfl, rfl, hN, hR, hb2, hb⟩ := hrel
    have HB2 := Lib.hid hb2; have HB := Lib.hid hb
    clear hb2 hb
    have hNb : N ≤ 1000 := by have := hN.out; have := HZ.out; omega
    by_cases hlt : k < z
    · go_wp2_with (go_at_call 45; refine (combVar_c _ _).mono ?_; rintro e w3 ⟨rfl, rfl⟩)
      have BS := two_blks wr #[.int .i64 4, .int .i64 0] #[.slice A N cc] 50 24
      refine (applyComb_c (some ⟨wr.heap.size, 0, none⟩) 1 1 [(4, 0)] _ 1 1 (1 + 1 + N) [itC A N cc (numC k)] _ (BS.1.rd rfl (by simp)) (rdVC BS.2 (by simp [hdV, itC]) rfl (fun i hi => by
        rw [List.mem_singleton] at hi; subst hi
        exact itC_ok ((hR.out.alloc _).alloc _))) (by omega) (by omega) (by simp [sumV, itC]; omega) (by simp [sumV, itC])).mono ?_
      rintro e w4 ⟨A4, c4, rfl, hw4, hc4, hb4⟩
      have E4 := Lib.hid (up2 hb4)
      have W4 := Lib.hid (show Rd2 w4 A4 (1 + 1 + N) (numC (k + 1)) by
        have := hw4.rd
        simpa [Rd2, numC, itC, List.flatMap_append, List.append_assoc] using this)
      clear hw4 hb4 BS
      go_wp2_with fail
      go_roundw
      case rel => exact ⟨k + 1, 1 + 1 + N, c4, A4, by omega, by go_num, rfl, by have := hN.out; unfold Hid; omega, W4.out, below_chain HB2.out HB2.out.size E4.out, below_chain HB.out HB.out.size E4.out⟩
      case measure => simp [intOf]; omega
    · obtain rfl : k = z := by omega
      obtain ⟨q, hq⟩ : ∃ q, decide (o = numC k) = q := ⟨_, rfl⟩
      have HQ := Lib.hid hq
      have HCQ := Lib.hid (show cntR o = q by rw [HCN.out, HOL.out, HZ.out]; exact hq)
      have RO := Lib.hid (R2.out.below HB2.out)
      clear hq
      cases q
      · have HF := Lib.hid (show ((0 : Int), (0 : Int), (3 : Int)) = R by rw [← HG.out, if_neg (by rw [HCQ.out]; simp)])
        go_wp2_with (go_at_call 48; refine (equalComb_c _ _ _ _ _ _ o (numC k) false _ RO.out hR.out (by omega) HQ.out).mono ?_; rintro e w5 ⟨rfl, j, rfl⟩)
        go_ret3
        rw [← HF.out]
        exact ⟨rfl, below_drewN HB.out _⟩
      · have HF := Lib.hid (show ((k : Int), (s : Int), (0 : Int)) = R by rw [← HG.out, if_pos HCQ.out])
        go_wp2_with (go_at_call 48; refine (equalComb_c _ _ _ _ _ _ o (numC k) true _ RO.out hR.out (by omega) HQ.out).mono ?_; rintro e w5 ⟨rfl, j, rfl⟩)
        go_ret3
        rw [← HF.out]
        exact ⟨rfl, below_drewN HB.out _⟩
end Go.Proofs.Ytfgnhdmiglobhaa
