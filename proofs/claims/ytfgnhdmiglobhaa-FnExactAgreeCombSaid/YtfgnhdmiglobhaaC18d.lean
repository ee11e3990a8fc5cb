/-
  Contracts of chapter 18: variables, applications, normal terms and numerals of the program.
-/
import Derived.Test.YtfgnhdmiglobhaaC18c
import Derived.Test.YtfgnhdmiglobhaaC12h
import Derived.Test.YtfgnhdmiglobhaaSortI
namespace Go.Proofs.Ytfgnhdmiglobhaa
open Go.RowKit

set_option maxHeartbeats 1000000 in
theorem equalComb_c (A B : Option Addr) (n m c d : Nat) (xs ys : List (Int × Int)) (q : Bool) (w : World) (h : Rd2 w A n xs) (h' : Rd2 w B m ys) (hn : n ≤ 1000000000) (hq : decide (xs = ys) = q) :
    Calls Try.prog 48 #[.slice A n c, .slice B m d] w fun e w' => e = .returned (.bool q) ∧ ∃ k, w' = w.drewN k := by
  have HL := Lib.hid h.len; have HL' := Lib.hid h'.len
  have H := Lib.hid h; have H' := Lib.hid h'; have HQ := Lib.hid hq; clear h h' hq
  by_cases hnm : n = m
  case neg =>
    have g1 : ((n : Int) != (m : Int)) = true := by simp; omega
    have HG := Lib.hid (show false = q by
      rw [← HQ.out, decide_eq_false]
      intro e; apply hnm; rw [← HL.out, ← HL'.out, e])
    go_enter Try.func48, Try.ntmps48
    go_wp2_with fail
    go_ret
    exact ⟨by rw [← HG.out]; rfl, 0, rfl⟩
  subst hnm
  go_enter Try.func48, Try.ntmps48
  go_wp2_with fail
  go_loopw [13] (fun iv wr => ∃ k : Nat, k ≤ n ∧ iv = .int .i64 k ∧ Hid (decide (xs.drop k = ys.drop k) = q) ∧ ∃ j, wr = w.drewN j) (fun iv _ => n - (intOf iv).toNat)
  case atStart => exact ⟨0, by omega, rfl, HQ.out, 0, rfl⟩
  case round =>
    obtain ⟨k, hk, rfl, hr, j, rfl⟩ := hrel
    by_cases hlt : k < n
    · obtain ⟨ad, x, rfl, _, hx, hc0, hc1⟩ := H.out.at_ hlt
      obtain ⟨ad', y, rfl, _, hy, hd0, hd1⟩ := H'.out.at_ hlt
      have hc0 : (w.drewN j).cell? (ad.add (k * 2)) = some (i64 x.1) := hc0
      have hc1 : (w.drewN j).cell? ⟨(ad.add (k * 2)).block, (ad.add (k * 2)).off + 1, none⟩ = some (i64 x.2) := hc1
      have hd0 : (w.drewN j).cell? (ad'.add (k * 2)) = some (i64 y.1) := hd0
      have hd1 : (w.drewN j).cell? ⟨(ad'.add (k * 2)).block, (ad'.add (k * 2)).off + 1, none⟩ = some (i64 y.2) := hd1
      obtain ⟨p, v⟩ := x
      obtain ⟨a, b⟩ := y
      have HS := Lib.hid (show decide ((p, v) :: xs.drop (k + 1) = (a, b) :: ys.drop (k + 1)) = q by rw [← hr.out, drop_at hx, drop_at hy])
      simp only at hc0 hc1 hd0 hd1
      clear hx hy hr
      rcases pair_cases p v a b with ⟨_, rfl, rfl⟩ | ⟨hne, hne2⟩
      · have HG := Lib.hid (show decide (xs.drop (k + 1) = ys.drop (k + 1)) = q by rw [← HS.out]; simp)
        go_wp2_with fail
        go_quiet (fail)
        go_wp2_with fail
        go_roundw
        case rel => exact ⟨k + 1, by omega, by go_num, HG.out, _, rfl⟩
        case measure => simp [intOf]; omega
      · have HG := Lib.hid (show false = q by
          rw [← HS.out, decide_eq_false]
          intro e; injection e with e _; exact hne e)
        rcases hne2 with g1 | ⟨rfl, g1⟩
        · go_wp2_with fail
          go_quiet (fail)
          go_wp2_with fail
          go_ret
          exact ⟨by rw [← HG.out]; rfl, _, by rw [World.drewN_drewN]⟩
        · go_wp2_with fail
          go_quiet (fail)
          go_wp2_with fail
          go_ret
          exact ⟨by rw [← HG.out]; rfl, _, by rw [World.drewN_drewN]⟩
    · have HG := Lib.hid (show true = q by rw [← hr.out, List.drop_eq_nil_of_le (by rw [HL.out]; omega), List.drop_eq_nil_of_le (by rw [HL'.out]; omega)]; rfl)
      go_wp2_with fail
      go_ret
      exact ⟨by rw [← HG.out]; rfl, _, rfl⟩
theorem combVar_c (v : Int) (w : World) : Calls Try.prog 45 #[.int .i64 v] w fun e w' => e = .returned (.slice (some ⟨w.heap.size, 0, none⟩) 1 1) ∧ w' = w.alloc (.cells #[.int .i64 4, .int .i64 v] 50) := by
  go_enter Try.func45, Try.ntmps45
  go_wp2_with fail
  go_ret
  exact ⟨rfl, rfl⟩
theorem applyComb_c (A : Option Addr) (n c : Nat) (xs : List (Int × Int)) (G : Option Addr) (m mc N : Nat) (its : List ItV) (w : World) (h : Rd2 w A n xs) (hG : RdV w 2 G m its) (hm : m ≤ 11) (hn : n ≤ 1000000) (hs : sumV its ≤ 1000000) (hN : m + n + sumV its = N) :
    Calls Try.prog 47 #[.slice A n c, .slice G m mc] w (CatOut 2 N ((List.replicate m ((0 : Int), (0 : Int))).flatMap enc2 ++ xs.flatMap enc2 ++ its.flatMap ItV.vs) w) := by
  have HA := Lib.hid (appliedComb_c (0, 0) A n c xs G m mc N its w h hG hm hn hs hN)
  clear h hG hs hN
  go_enter Try.func47, Try.ntmps47
  go_wp2_with fail
  refine HA.out.mono ?_
  rintro e w1 ⟨A1, c1, rfl, hw1, hc1, hb1⟩
  have W1 := Lib.hid hw1; have B1 := Lib.hid hb1
  clear hw1 hb1 HA
  go_wp2_with fail
  go_ret
  exact ⟨A1, c1, rfl, W1.out, hc1, B1.out⟩
def nmX : Option (List (Int × Int) × Nat × Bool) → List (Int × Int) × Int × Int
  | some (t, s, true) => (t, s, 0)
  | _ => ([], 0, 5)
def nmR (c : List (Int × Int)) (b : Nat) : List (Int × Int) × Int × Int := if validC c = true then nmX (runC b c 0) else ([], 0, 5)
theorem nmR_valid {c : List (Int × Int)} {b : Nat} (h : (nmR c b).2.2 = 0) : validC (nmR c b).1 = true := by
  unfold nmR at *
  by_cases hv : validC c = true
  · rw [if_pos hv] at h ⊢
    cases hX : runC b c 0 with
    | none => rw [hX] at h; simp [nmX] at h
    | some x =>
      obtain ⟨t, s, q⟩ := x
      rw [hX] at h
      cases q
      · simp [nmX] at h
      · exact (runC_valid hv hX).1
  · rw [if_neg hv] at h; simp at h
/-- a normal term of the call's own, the steps, the code -/
def NmOut (R : List (Int × Int) × Int × Int) (w : World) (e : Ending) (w' : World) : Prop := ∃ A N cap, e = .returned (.tuple #[.slice A N cap, .int .i64 R.2.1, .int .i64 R.2.2]) ∧ Rd2 w' A N R.1 ∧ N ≤ 1000000 ∧ Below w.heap.size w w'
set_option maxHeartbeats 1000000 in
theorem normalComb_c (A : Option Addr) (n cp : Nat) (c : List (Int × Int)) (b : Nat) (R : List (Int × Int) × Int × Int) (w : World) (h : Rd2 w A n c) (hn : n ≤ 1000000) (hb : inB (b : Int) 1 20000 = true) (hR : nmR c b = R) :
    Calls Try.prog 46 #[.slice A n cp, .int .i64 b] w (NmOut R w) := by
  have H := Lib.hid h; clear h
  by_cases hv : validC c = true
  case neg =>
    have HR := Lib.hid (show ([], 0, 5) = R by rw [← hR, nmR, if_neg hv])
    have HV := Lib.hid (show validC c = false by simpa using hv)
    clear hv hR
    go_enter Try.func46, Try.ntmps46
    go_wp2_with (go_at_call 30; refine (validComb_c _ _ _ c false _ H.out (by omega) HV.out).mono ?_; rintro e w1 ⟨rfl, hb1⟩)
    go_ret3
    rw [← HR.out]
    exact ⟨none, 0, 0, rfl, Rd2.none0, by omega, hb1⟩
  obtain ⟨X, hX⟩ : ∃ X, runC b c 0 = X := ⟨_, rfl⟩
  have HR := Lib.hid (show nmX X = R by rw [← hR, nmR, if_pos hv, hX])
  obtain ⟨Y, hY⟩ : ∃ Y, rcR c b = Y := ⟨_, rfl⟩
  have HY := Lib.hid (show rcX X = Y by rw [← hY, rcR, if_neg (by rw [hv]; simp), if_neg (by rw [hb]; simp), show ((b : Int)).toNat = b by omega, hX])
  have HYY := Lib.hid hY
  have HV := Lib.hid hv
  clear hR hX hY hv hb
  go_enter Try.func46, Try.ntmps46
  go_wp2_with (go_at_call 30; refine (validComb_c _ _ _ c true _ H.out (by omega) HV.out).mono ?_; rintro e w1 ⟨rfl, hb1⟩)
  have R1 := Lib.hid (H.out.below hb1); have B1 := Lib.hid hb1
  clear hb1
  refine (iRunComb_c _ _ _ c b _ R1.out (by omega)).mono ?_
  rw [HYY.out]
  rintro e w2 ⟨A2, N2, c2, rfl, hw2, hN2, hb2⟩
  have W2 := Lib.hid (show Rd2 w2 A2 N2 Y.1 from hw2.rd); have B2 := Lib.hid (below_chain B1.out B1.out.size hb2)
  clear hw2 hb2 HYY
  cases X with
  | none =>
    obtain rfl : Y = ([], 0, false, 5) := HY.out.symm
    have HG := Lib.hid (show ([], 0, 5) = R from HR.out)
    go_wp2_with fail
    go_ret3
    rw [← HG.out]
    exact ⟨none, 0, 0, rfl, Rd2.none0, by omega, B2.out⟩
  | some x =>
    obtain ⟨t, s, q⟩ := x
    obtain rfl : Y = (t, (s : Int), q, 0) := HY.out.symm
    cases q
    · have HG := Lib.hid (show ([], 0, 5) = R from HR.out)
      go_wp2_with fail
      go_ret3
      rw [← HG.out]
      exact ⟨none, 0, 0, rfl, Rd2.none0, by omega, B2.out⟩
    · have HG := Lib.hid (show (t, (s : Int), (0 : Int)) = R from HR.out)
      go_wp2_with fail
      go_ret3
      rw [← HG.out]
      exact ⟨_, _, _, rfl, W2.out, hN2, B2.out⟩
set_option maxHeartbeats 2000000 in
set_option maxRecDepth 100000 in
theorem combVariables_c (A : Option Addr) (n cp : Nat) (c : List (Int × Int)) (R : List Int) (w : World) (h : Rd2 w A n c) (hn : n ≤ 100000) (hR : normV (varsC c) = R) :
    Calls Try.prog 36 #[.slice A n cp] w fun e w' => ∃ A' cap, e = .returned (.slice A' R.length cap) ∧ Wr w' w.heap.size w'.heap.size A' R.length (R.map i64) ∧ R.length ≤ n ∧ Below w.heap.size w w' := by
  have HL := Lib.hid h.len
  have H := Lib.hid h; have HR := Lib.hid hR; clear h hR
  go_enter Try.func36, Try.ntmps36
  go_wp2_with fail
  go_loopw [3, 9] (fun ov iv wr => ∃ (k m g cc : Nat) (acc : List Int), k ≤ n ∧ m ≤ k ∧ iv = .int .i64 k ∧ ov = .slice (some ⟨g, 0, none⟩) m cc ∧ Hid (Own wr w.heap.size 2 1 (some ⟨g, 0, none⟩) m cc (acc.map i64)) ∧ Hid (acc ++ varsC (c.drop k) = varsC c) ∧ Below w.heap.size w wr) (fun _ iv _ => n - (intOf iv).toNat)
  case atStart => exact ⟨0, 0, w.heap.size, 0, [], by omega, by omega, rfl, rfl, Own.lit (Nat.le_refl _), rfl, below_size.alloc (Nat.le_refl _) _⟩
  case round =>
    obtain ⟨k, m, g, cc, acc, hk, hmk, rfl, rfl, hO, hr, hb⟩ := hrel
    have HB := Lib.hid hb
    have hwz := hb.size
    by_cases hlt : k < n
    · obtain ⟨ad, x, rfl, hab, hx, hc0, hc1⟩ := (H.out.below hb).at_ hlt
      obtain ⟨t, v⟩ := x
      have HS := Lib.hid (show acc ++ varsC ((t, v) :: c.drop (k + 1)) = varsC c by rw [← hr.out, drop_at hx])
      simp only at hc0 hc1
      clear hx hb hr
      obtain ⟨w4, hw4⟩ : ∃ w4, wr.alloc (.cells #[.int .i64 t, .int .i64 v] 50) = w4 := ⟨_, rfl⟩
      have B4 := Lib.hid (show Below w.heap.size w w4 by rw [← hw4]; exact HB.out.alloc hwz _)
      have O4 := Lib.hid (show Own w4 w.heap.size 2 1 (some ⟨g, 0, none⟩) m cc (acc.map i64) by rw [← hw4]; exact hO.out.alloc _)
      have x0 : w4.cell? ⟨wr.heap.size, 0, none⟩ = some (.int .i64 t) := by rw [← hw4]; exact new_cell _ _ _ 0
      have x1 : w4.cell? ⟨wr.heap.size, 1, none⟩ = some (.int .i64 v) := by rw [← hw4]; exact new_cell _ _ _ 1
      have hz4 := B4.out.size
      by_cases h4 : t = 4
      · subst h4
        have HG := Lib.hid (show (acc ++ [v]) ++ varsC (c.drop (k + 1)) = varsC c by rw [← HS.out]; simp [varsC])
        go_wp2_with (at_builtin; refine wp_app1 (by rfl) _ _ 56 2 (.int .i64 0) 8 (by rfl) Try.underlying56 info_i64 rfl w.heap.size (some ⟨g, 0, none⟩) m cc (acc.map i64) (by rfl) (by exact O4.out.alloc _) w4.heap.size (i64 v) (by rfl) (by exact new_cell _ _ _ 0) rfl (by omega) (by omega) (by simp; omega) ?_; intro g' cap w3 own3 hb3 hk3 hg3 hz3)
        have O3 := Lib.hid own3; have B3 := Lib.hid ((B4.out.alloc hz4 _).trans hb3)
        clear own3 hb3 hk3 hg3 hz3 x0 x1
        go_wp2_with fail
        go_roundw
        case rel => exact ⟨k + 1, m + 1, g', cap, acc ++ [v], by omega, by omega, by go_num, rfl, by unfold Hid; rw [List.map_append]; exact O3.out, HG.out, B3.out⟩
        case measure => simp [intOf]; omega
      · have g4 : (t == 4) = false := by simpa using h4
        have HG := Lib.hid (show acc ++ varsC (c.drop (k + 1)) = varsC c by rw [← HS.out]; simp [varsC, h4])
        go_wp2_with fail
        go_roundw
        case rel => exact ⟨k + 1, m, g, cc, acc, by omega, by omega, by go_num, rfl, O4.out, HG.out, B4.out⟩
        case measure => simp [intOf]; omega
    · have HG := Lib.hid (show acc = varsC c by rw [← hr.out, List.drop_eq_nil_of_le (by rw [HL.out]; omega)]; simp [varsC])
      have hcap := hO.out.cap
      have W0 := Lib.hid (show Wr wr w.heap.size wr.heap.size (some ⟨g, 0, none⟩) m ((varsC c).map i64) by rw [← HG.out]; exact hO.out.wr)
      have hml : (varsC c).length = m := W0.out.rdI.len
      clear hr hb
      go_wp2_with fail
      refine (sortI_c g m cc _ _ _ wr W0.out (by omega)).mono ?_
      rintro e w1 ⟨rfl, hw1, hb1⟩
      have W1 := Lib.hid hw1; have B1 := Lib.hid (HB.out.trans hb1)
      have hz1 := hb1.size
      clear hw1 hb1
      go_wp2_with fail
      refine (compactI_c g m cc _ _ _ w1 W1.out (by omega) hcap).mono ?_
      rw [show Lib.compact (sortL (varsC c)) = R from HR.out]
      rintro e w2 ⟨rfl, hw2, hb2⟩
      have W2 := Lib.hid (hw2.wider (Nat.le_refl _) (Nat.le_trans hz1 hb2.size)); have B2 := Lib.hid (B1.out.trans hb2)
      clear hw2 hb2
      have hRl : R.length ≤ n := by have := normV_len (varsC c); rw [HR.out, hml] at this; omega
      go_wp2_with fail
      go_ret
      exact ⟨_, cc, rfl, W2.out, hRl, B2.out⟩
end Go.Proofs.Ytfgnhdmiglobhaa
