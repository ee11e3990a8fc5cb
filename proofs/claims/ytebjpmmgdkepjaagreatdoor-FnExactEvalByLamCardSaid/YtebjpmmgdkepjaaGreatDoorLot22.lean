/-
  Parts of the proof, one behind the other: contracts of the functions that the law reaches, and plain laws.
-/
import Derived.Test.YtebjpmmgdkepjaaGreatDoorLot09
import Derived.Test.YtebjpmmgdkepjaaGreatDoorLot14
import Derived.Test.YtebjpmmgdkepjaaGreatDoorLot17
import Derived.Test.YtebjpmmgdkepjaaGreatDoorLot21
/-
  Contracts of chapter 18: variables, applications, normal terms and numerals of the program.
-/
namespace Go.Proofs.YtebjpmmgdkepjaaGreatDoor
open Go.RowKit

set_option maxHeartbeats 1000000 in
theorem equalComb_c (A B : Option Addr) (n m c d : Nat) (xs ys : List (Int × Int)) (q : Bool) (w : World) (h : Rd2 w A n xs) (h' : Rd2 w B m ys) (hn : n ≤ 1000000000) (hq : decide (xs = ys) = q) :
    Calls Tryz.prog 73 #[.slice A n c, .slice B m d] w fun e w' => e = .returned (.bool q) ∧ ∃ k, w' = w.drewN k := by
  have HL := Lib.hid h.len; have HL' := Lib.hid h'.len
  have H := Lib.hid h; have H' := Lib.hid h'; have HQ := Lib.hid hq; clear h h' hq
  by_cases hnm : n = m
  case neg =>
    have g1 : ((n : Int) != (m : Int)) = true := by simp; omega
    have HG := Lib.hid (show false = q by
      rw [← HQ.out, decide_eq_false]
      intro e; apply hnm; rw [← HL.out, ← HL'.out, e])
    go_enter Tryz.func73, Tryz.ntmps73
    go_wp2_with fail
    go_ret
    exact ⟨by rw [← HG.out]; rfl, 0, rfl⟩
  subst hnm
  go_enter Tryz.func73, Tryz.ntmps73
  go_wp2_with fail
  go_loopw [13] (fun iv wr => ∃ k : Nat, k ≤ n ∧ iv = .int .i64 k ∧ Hid (decide (xs.drop k = ys.drop k) = q) ∧ ∃ j, wr = w.drewN j) (fun iv _ => n - (intOf iv).toNat)
  case atStart => exact ⟨0, by omega, rfl, HQ.out, 0, rfl⟩
  case round =>
    obtain ⟨k, hk, rfl, hr, j, rfl⟩ := hrel
    by_cases hlt : k < n
    · obtain ⟨ad, x, rfl, _, hx, hc0, hc1⟩ := H.out.at_ hlt
      obtain ⟨ad', y, rfl, _, hy, hd0, hd1⟩ := H'.out.at_ hlt
      have hc0 : (w.drewN j).cell? (ad.add (k * 2)) = some (i64 x.1) := hc0
      have hc1 : (w.drewN j).cell? ⟨(ad.add (k * 2)).block, (ad.add (k * 2)).off + 1, none⟩ = some (i64 x.2) := hc1
      have hd0 : (w.drewN j).cell? (ad'.add (k * 2)) = some (i64 y.1) := hd0
      have hd1 : (w.drewN j).cell? ⟨(ad'.add (k * 2)).block, (ad'.add (k * 2)).off + 1, none⟩ = some (i64 y.2) := hd1
      obtain ⟨p, v⟩ := x
      obtain ⟨a, b⟩ := y
      have HS := Lib.hid (show decide ((p, v) :: xs.drop (k + 1) = (a, b) :: ys.drop (k + 1)) = q by rw [← hr.out, drop_at hx, drop_at hy])
      simp only at hc0 hc1 hd0 hd1
      clear hx hy hr
      rcases pair_cases p v a b with ⟨_, rfl, rfl⟩ | ⟨hne, hne2⟩
      · have HG := Lib.hid (show decide (xs.drop (k + 1) = ys.drop (k + 1)) = q by rw [← HS.out]; simp)
        go_wp2_with fail
        go_quiet (fail)
        go_wp2_with fail
        go_roundw
        case rel => exact ⟨k + 1, by omega, by go_num, HG.out, _, rfl⟩
        case measure => simp [intOf]; omega
      · have HG := Lib.hid (show false = q by
          rw [← HS.out, decide_eq_false]
          intro e; injection e with e _; exact hne e)
        rcases hne2 with g1 | ⟨rfl, g1⟩
        · go_wp2_with fail
          go_quiet (fail)
          go_wp2_with fail
          go_ret
          exact ⟨by rw [← HG.out]; rfl, _, by rw [World.drewN_drewN]⟩
        · go_wp2_with fail
          go_quiet (fail)
          go_wp2_with fail
          go_ret
          exact ⟨by rw [← HG.out]; rfl, _, by rw [World.drewN_drewN]⟩
    · have HG := Lib.hid (show true = q by rw [← hr.out, List.drop_eq_nil_of_le (by rw [HL.out]; omega), List.drop_eq_nil_of_le (by rw [HL'.out]; omega)]; rfl)
      go_wp2_with fail
      go_ret
      exact ⟨by rw [← HG.out]; rfl, _, rfl⟩
set_option maxHeartbeats 1000000 in
theorem equalLam_c (A B : Option Addr) (n m c d : Nat) (xs ys : List (Int × Int)) (q : Bool) (w : World) (h : Rd2 w A n xs) (h' : Rd2 w B m ys) (hn : n ≤ 1000000000) (hq : decide (xs = ys) = q) :
    Calls Tryz.prog 35 #[.slice A n c, .slice B m d] w fun e w' => e = .returned (.bool q) ∧ ∃ k, w' = w.drewN k := by
  have HL := Lib.hid h.len; have HL' := Lib.hid h'.len
  have H := Lib.hid h; have H' := Lib.hid h'; have HQ := Lib.hid hq; clear h h' hq
  by_cases hnm : n = m
  case neg =>
    have g1 : ((n : Int) != (m : Int)) = true := by simp; omega
    have HG := Lib.hid (show false = q by
      rw [← HQ.out, decide_eq_false]
      intro e; apply hnm; rw [← HL.out, ← HL'.out, e])
    go_enter Tryz.func35, Tryz.ntmps35
    go_wp2_with fail
    go_ret
    exact ⟨by rw [← HG.out]; rfl, 0, rfl⟩
  subst hnm
  go_enter Tryz.func35, Tryz.ntmps35
  go_wp2_with fail
  go_loopw [13] (fun iv wr => ∃ k : Nat, k ≤ n ∧ iv = .int .i64 k ∧ Hid (decide (xs.drop k = ys.drop k) = q) ∧ ∃ j, wr = w.drewN j) (fun iv _ => n - (intOf iv).toNat)
  case atStart => exact ⟨0, by omega, rfl, HQ.out, 0, rfl⟩
  case round =>
    obtain ⟨k, hk, rfl, hr, j, rfl⟩ := hrel
    by_cases hlt : k < n
    · obtain ⟨ad, x, rfl, _, hx, hc0, hc1⟩ := H.out.at_ hlt
      obtain ⟨ad', y, rfl, _, hy, hd0, hd1⟩ := H'.out.at_ hlt
      have hc0 : (w.drewN j).cell? (ad.add (k * 2)) = some (i64 x.1) := hc0
      have hc1 : (w.drewN j).cell? ⟨(ad.add (k * 2)).block, (ad.add (k * 2)).off + 1, none⟩ = some (i64 x.2) := hc1
      have hd0 : (w.drewN j).cell? (ad'.add (k * 2)) = some (i64 y.1) := hd0
      have hd1 : (w.drewN j).cell? ⟨(ad'.add (k * 2)).block, (ad'.add (k * 2)).off + 1, none⟩ = some (i64 y.2) := hd1
      obtain ⟨p, v⟩ := x
      obtain ⟨a, b⟩ := y
      have HS := Lib.hid (show decide ((p, v) :: xs.drop (k + 1) = (a, b) :: ys.drop (k + 1)) = q by rw [← hr.out, drop_at hx, drop_at hy])
      simp only at hc0 hc1 hd0 hd1
      clear hx hy hr
      rcases pair_cases p v a b with ⟨_, rfl, rfl⟩ | ⟨hne, hne2⟩
      · have HG := Lib.hid (show decide (xs.drop (k + 1) = ys.drop (k + 1)) = q by rw [← HS.out]; simp)
        go_wp2_with fail
        go_quiet (fail)
        go_wp2_with fail
        go_roundw
        case rel => exact ⟨k + 1, by omega, by go_num, HG.out, _, rfl⟩
        case measure => simp [intOf]; omega
      · have HG := Lib.hid (show false = q by
          rw [← HS.out, decide_eq_false]
          intro e; injection e with e _; exact hne e)
        rcases hne2 with g1 | ⟨rfl, g1⟩
        · go_wp2_with fail
          go_quiet (fail)
          go_wp2_with fail
          go_ret
          exact ⟨by rw [← HG.out]; rfl, _, by rw [World.drewN_drewN]⟩
        · go_wp2_with fail
          go_quiet (fail)
          go_wp2_with fail
          go_ret
          exact ⟨by rw [← HG.out]; rfl, _, by rw [World.drewN_drewN]⟩
    · have HG := Lib.hid (show true = q by rw [← hr.out, List.drop_eq_nil_of_le (by rw [HL.out]; omega), List.drop_eq_nil_of_le (by rw [HL'.out]; omega)]; rfl)
      go_wp2_with fail
      go_ret
      exact ⟨by rw [← HG.out]; rfl, _, rfl⟩
theorem combVar_c (v : Int) (w : World) : Calls Tryz.prog 65 #[.int .i64 v] w fun e w' => e = .returned (.slice (some ⟨w.heap.size, 0, none⟩) 1 1) ∧ w' = w.alloc (.cells #[.int .i64 4, .int .i64 v] 100) := by
  go_enter Tryz.func65, Tryz.ntmps65
  go_wp2_with fail
  go_ret
  exact ⟨rfl, rfl⟩
theorem applyComb_c (A : Option Addr) (n c : Nat) (xs : List (Int × Int)) (G : Option Addr) (m mc N : Nat) (its : List ItV) (w : World) (h : Rd2 w A n xs) (hG : RdV w 2 G m its) (hm : m ≤ 11) (hn : n ≤ 1000000) (hs : sumV its ≤ 1000000) (hN : m + n + sumV its = N) :
    Calls Tryz.prog 67 #[.slice A n c, .slice G m mc] w (CatOut 2 N ((List.replicate m ((0 : Int), (0 : Int))).flatMap enc2 ++ xs.flatMap enc2 ++ its.flatMap ItV.vs) w) := by
  have HA := Lib.hid (appliedComb_c (0, 0) A n c xs G m mc N its w h hG hm hn hs hN)
  clear h hG hs hN
  go_enter Tryz.func67, Tryz.ntmps67
  go_wp2_with fail
  refine HA.out.mono ?_
  rintro e w1 ⟨A1, c1, rfl, hw1, hc1, hb1⟩
  have W1 := Lib.hid hw1; have B1 := Lib.hid hb1
  clear hw1 hb1 HA
  go_wp2_with fail
  go_ret
  exact ⟨A1, c1, rfl, W1.out, hc1, B1.out⟩
def nmX : Option (List (Int × Int) × Nat × Bool) → List (Int × Int) × Int × Int
  | some (t, s, true) => (t, s, 0)
  | _ => ([], 0, 5)
def nmR (c : List (Int × Int)) (b : Nat) : List (Int × Int) × Int × Int := if validC c = true then nmX (runC b c 0) else ([], 0, 5)
theorem nmR_valid {c : List (Int × Int)} {b : Nat} (h : (nmR c b).2.2 = 0) : validC (nmR c b).1 = true := by
  unfold nmR at *
  by_cases hv : validC c = true
  · rw [if_pos hv] at h ⊢
    cases hX : runC b c 0 with
    | none => rw [hX] at h; simp [nmX] at h
    | some x =>
      obtain ⟨t, s, q⟩ := x
      rw [hX] at h
      cases q
      · simp [nmX] at h
      · exact (runC_valid hv hX).1
  · rw [if_neg hv] at h; simp at h
/-- a normal term of the call's own, the steps, the code -/
def NmOut (R : List (Int × Int) × Int × Int) (w : World) (e : Ending) (w' : World) : Prop := ∃ A N cap, e = .returned (.tuple #[.slice A N cap, .int .i64 R.2.1, .int .i64 R.2.2]) ∧ Rd2 w' A N R.1 ∧ N ≤ 1000000 ∧ Below w.heap.size w w'
set_option maxHeartbeats 1000000 in
theorem normalComb_c (A : Option Addr) (n cp : Nat) (c : List (Int × Int)) (b : Nat) (R : List (Int × Int) × Int × Int) (w : World) (h : Rd2 w A n c) (hn : n ≤ 1000000) (hb : inB (b : Int) 1 20000 = true) (hR : nmR c b = R) :
    Calls Tryz.prog 72 #[.slice A n cp, .int .i64 b] w (NmOut R w) := by
  have H := Lib.hid h; clear h
  by_cases hv : validC c = true
  case neg =>
    have HR := Lib.hid (show ([], 0, 5) = R by rw [← hR, nmR, if_neg hv])
    have HV := Lib.hid (show validC c = false by simpa using hv)
    clear hv hR
    go_enter Tryz.func72, Tryz.ntmps72
    go_wp2_with (go_at_call 37; refine (validComb_c _ _ _ c false _ H.out (by omega) HV.out).mono ?_; rintro e w1 ⟨rfl, hb1⟩)
    go_ret3
    rw [← HR.out]
    exact ⟨none, 0, 0, rfl, Rd2.none0, by omega, hb1⟩
  obtain ⟨X, hX⟩ : ∃ X, runC b c 0 = X := ⟨_, rfl⟩
  have HR := Lib.hid (show nmX X = R by rw [← hR, nmR, if_pos hv, hX])
  obtain ⟨Y, hY⟩ : ∃ Y, rcR c b = Y := ⟨_, rfl⟩
  have HY := Lib.hid (show rcX X = Y by rw [← hY, rcR, if_neg (by rw [hv]; simp), if_neg (by rw [hb]; simp), show ((b : Int)).toNat = b by omega, hX])
  have HYY := Lib.hid hY
  have HV := Lib.hid hv
  clear hR hX hY hv hb
  go_enter Tryz.func72, Tryz.ntmps72
  go_wp2_with (go_at_call 37; refine (validComb_c _ _ _ c true _ H.out (by omega) HV.out).mono ?_; rintro e w1 ⟨rfl, hb1⟩)
  have R1 := Lib.hid (H.out.below hb1); have B1 := Lib.hid hb1
  clear hb1
  refine (iRunComb_c _ _ _ c b _ R1.out (by omega)).mono ?_
  rw [HYY.out]
  rintro e w2 ⟨A2, N2, c2, rfl, hw2, hN2, hb2⟩
  have W2 := Lib.hid (show Rd2 w2 A2 N2 Y.1 from hw2.rd); have B2 := Lib.hid (below_chain B1.out B1.out.size hb2)
  clear hw2 hb2 HYY
  cases X with
  | none =>
    obtain rfl : Y = ([], 0, false, 5) := HY.out.symm
    have HG := Lib.hid (show ([], 0, 5) = R from HR.out)
    go_wp2_with fail
    go_ret3
    rw [← HG.out]
    exact ⟨none, 0, 0, rfl, Rd2.none0, by omega, B2.out⟩
  | some x =>
    obtain ⟨t, s, q⟩ := x
    obtain rfl : Y = (t, (s : Int), q, 0) := HY.out.symm
    cases q
    · have HG := Lib.hid (show ([], 0, 5) = R from HR.out)
      go_wp2_with fail
      go_ret3
      rw [← HG.out]
      exact ⟨none, 0, 0, rfl, Rd2.none0, by omega, B2.out⟩
    · have HG := Lib.hid (show (t, (s : Int), (0 : Int)) = R from HR.out)
      go_wp2_with fail
      go_ret3
      rw [← HG.out]
      exact ⟨_, _, _, rfl, W2.out, hN2, B2.out⟩
set_option maxHeartbeats 2000000 in
set_option maxRecDepth 100000 in
theorem combVariables_c (A : Option Addr) (n cp : Nat) (c : List (Int × Int)) (R : List Int) (w : World) (h : Rd2 w A n c) (hn : n ≤ 100000) (hR : normV (varsC c) = R) :
    Calls Tryz.prog 39 #[.slice A n cp] w fun e w' => ∃ A' cap, e = .returned (.slice A' R.length cap) ∧ Wr w' w.heap.size w'.heap.size A' R.length (R.map i64) ∧ R.length ≤ n ∧ Below w.heap.size w w' := by
  have HL := Lib.hid h.len
  have H := Lib.hid h; have HR := Lib.hid hR; clear h hR
  go_enter Tryz.func39, Tryz.ntmps39
  go_wp2_with fail
  go_loopw [3, 9] (fun ov iv wr => ∃ (k m g cc : Nat) (acc : List Int), k ≤ n ∧ m ≤ k ∧ iv = .int .i64 k ∧ ov = .slice (some ⟨g, 0, none⟩) m cc ∧ Hid (Own wr w.heap.size 2 1 (some ⟨g, 0, none⟩) m cc (acc.map i64)) ∧ Hid (acc ++ varsC (c.drop k) = varsC c) ∧ Below w.heap.size w wr) (fun _ iv _ => n - (intOf iv).toNat)
  case atStart => exact ⟨0, 0, w.heap.size, 0, [], by omega, by omega, rfl, rfl, Own.lit (Nat.le_refl _), rfl, below_size.alloc (Nat.le_refl _) _⟩
  case round =>
    obtain ⟨k, m, g, cc, acc, hk, hmk, rfl, rfl, hO, hr, hb⟩ := hrel
    have HB := Lib.hid hb
    have hwz := hb.size
    by_cases hlt : k < n
    · obtain ⟨ad, x, rfl, hab, hx, hc0, hc1⟩ := (H.out.below hb).at_ hlt
      obtain ⟨t, v⟩ := x
      have HS := Lib.hid (show acc ++ varsC ((t, v) :: c.drop (k + 1)) = varsC c by rw [← hr.out, drop_at hx])
      simp only at hc0 hc1
      clear hx hb hr
      obtain ⟨w4, hw4⟩ : ∃ w4, wr.alloc (.cells #[.int .i64 t, .int .i64 v] 100) = w4 := ⟨_, rfl⟩
      have B4 := Lib.hid (show Below w.heap.size w w4 by rw [← hw4]; exact HB.out.alloc hwz _)
      have O4 := Lib.hid (show Own w4 w.heap.size 2 1 (some ⟨g, 0, none⟩) m cc (acc.map i64) by rw [← hw4]; exact hO.out.alloc _)
      have x0 : w4.cell? ⟨wr.heap.size, 0, none⟩ = some (.int .i64 t) := by rw [← hw4]; exact new_cell _ _ _ 0
      have x1 : w4.cell? ⟨wr.heap.size, 1, none⟩ = some (.int .i64 v) := by rw [← hw4]; exact new_cell _ _ _ 1
      have hz4 := B4.out.size
      by_cases h4 : t = 4
      · subst h4
        have HG := Lib.hid (show (acc ++ [v]) ++ varsC (c.drop (k + 1)) = varsC c by rw [← HS.out]; simp [varsC])
        go_wp2_with (at_builtin; refine wp_app1 (by rfl) _ _ 29 2 (.int .i64 0) 8 (by rfl) Tryz.underlying29 info_i64 rfl w.heap.size (some ⟨g, 0, none⟩) m cc (acc.map i64) (by rfl) (by exact O4.out.alloc _) w4.heap.size (i64 v) (by rfl) (by exact new_cell _ _ _ 0) rfl (by omega) (by omega) (by simp; omega) ?_; intro g' cap w3 own3 hb3 hk3 hg3 hz3)
        have O3 := Lib.hid own3; have B3 := Lib.hid ((B4.out.alloc hz4 _).trans hb3)
        clear own3 hb3 hk3 hg3 hz3 x0 x1
        go_wp2_with fail
        go_roundw
        case rel => exact ⟨k + 1, m + 1, g', cap, acc ++ [v], by omega, by omega, by go_num, rfl, by unfold Hid; rw [List.map_append]; exact O3.out, HG.out, B3.out⟩
        case measure => simp [intOf]; omega
      · have g4 : (t == 4) = false := by simpa using h4
        have HG := Lib.hid (show acc ++ varsC (c.drop (k + 1)) = varsC c by rw [← HS.out]; simp [varsC, h4])
        go_wp2_with fail
        go_roundw
        case rel => exact ⟨k + 1, m, g, cc, acc, by omega, by omega, by go_num, rfl, O4.out, HG.out, B4.out⟩
        case measure => simp [intOf]; omega
    · have HG := Lib.hid (show acc = varsC c by rw [← hr.out, List.drop_eq_nil_of_le (by rw [HL.out]; omega)]; simp [varsC])
      have hcap := hO.out.cap
      have W0 := Lib.hid (show Wr wr w.heap.size wr.heap.size (some ⟨g, 0, none⟩) m ((varsC c).map i64) by rw [← HG.out]; exact hO.out.wr)
      have hml : (varsC c).length = m := W0.out.rdI.len
      clear hr hb
      go_wp2_with fail
      refine (sortI_c g m cc _ _ _ wr W0.out (by omega)).mono ?_
      rintro e w1 ⟨rfl, hw1, hb1⟩
      have W1 := Lib.hid hw1; have B1 := Lib.hid (HB.out.trans hb1)
      have hz1 := hb1.size
      clear hw1 hb1
      go_wp2_with fail
      refine (compactI_c g m cc _ _ _ w1 W1.out (by omega) hcap).mono ?_
      rw [show Lib.compact (sortL (varsC c)) = R from HR.out]
      rintro e w2 ⟨rfl, hw2, hb2⟩
      have W2 := Lib.hid (hw2.wider (Nat.le_refl _) (Nat.le_trans hz1 hb2.size)); have B2 := Lib.hid (B1.out.trans hb2)
      clear hw2 hb2
      have hRl : R.length ≤ n := by have := normV_len (varsC c); rw [HR.out, hml] at this; omega
      go_wp2_with fail
      go_ret
      exact ⟨_, cc, rfl, W2.out, hRl, B2.out⟩
end Go.Proofs.YtebjpmmgdkepjaaGreatDoor
/-
  Functions as terms: equal terms and the numbers of numerals, on both sides.
-/
namespace Go.Proofs.YtebjpmmgdkepjaaGreatDoor
open Go.RowKit

set_option maxHeartbeats 1000000 in
theorem l12Same_c (A B : Option Addr) (n m c d : Nat) (xs ys : List (Int × Int)) (q : Bool) (w : World) (h : Rd2 w A n xs) (h' : Rd2 w B m ys) (hn : n ≤ 1000000000) (hq : decide (xs = ys) = q) :
    Calls Tryz.prog 82 #[.slice A n c, .slice B m d] w fun e w' => e = .returned (.bool q) ∧ ∃ k, w' = w.drewN k := by
  have HL := Lib.hid h.len; have HL' := Lib.hid h'.len
  have H := Lib.hid h; have H' := Lib.hid h'; have HQ := Lib.hid hq; clear h h' hq
  by_cases hnm : n = m
  case neg =>
    have g1 : ((n : Int) != (m : Int)) = true := by simp; omega
    have HG := Lib.hid (show false = q by
      rw [← HQ.out, decide_eq_false]
      intro e; apply hnm; rw [← HL.out, ← HL'.out, e])
    go_enter Tryz.func82, Tryz.ntmps82
    go_wp2_with fail
    go_ret
    exact ⟨by rw [← HG.out]; rfl, 0, rfl⟩
  subst hnm
  go_enter Tryz.func82, Tryz.ntmps82
  go_wp2_with fail
  go_loopw [5] (fun iv wr => ∃ k : Nat, k ≤ n ∧ iv = .int .i64 k ∧ Hid (decide (xs.drop k = ys.drop k) = q) ∧ ∃ j, wr = w.drewN j) (fun iv _ => n - (intOf iv).toNat)
  case atStart => exact ⟨0, by omega, rfl, HQ.out, 0, rfl⟩
  case round =>
    obtain ⟨k, hk, rfl, hr, j, rfl⟩ := hrel
    by_cases hlt : k < n
    · obtain ⟨ad, x, rfl, _, hx, hc0, hc1⟩ := H.out.at_ hlt
      obtain ⟨ad', y, rfl, _, hy, hd0, hd1⟩ := H'.out.at_ hlt
      have hc0 : (w.drewN j).cell? (ad.add (k * 2)) = some (i64 x.1) := hc0
      have hc1 : (w.drewN j).cell? ⟨(ad.add (k * 2)).block, (ad.add (k * 2)).off + 1, none⟩ = some (i64 x.2) := hc1
      have hd0 : (w.drewN j).cell? (ad'.add (k * 2)) = some (i64 y.1) := hd0
      have hd1 : (w.drewN j).cell? ⟨(ad'.add (k * 2)).block, (ad'.add (k * 2)).off + 1, none⟩ = some (i64 y.2) := hd1
      obtain ⟨p, v⟩ := x
      obtain ⟨a, b⟩ := y
      have HS := Lib.hid (show decide ((p, v) :: xs.drop (k + 1) = (a, b) :: ys.drop (k + 1)) = q by rw [← hr.out, drop_at hx, drop_at hy])
      simp only at hc0 hc1 hd0 hd1
      clear hx hy hr
      rcases pair_cases p v a b with ⟨_, rfl, rfl⟩ | ⟨hne, hne2⟩
      · have HG := Lib.hid (show decide (xs.drop (k + 1) = ys.drop (k + 1)) = q by rw [← HS.out]; simp)
        go_wp2_with fail
        go_quiet (fail)
        go_wp2_with fail
        go_roundw
        case rel => exact ⟨k + 1, by omega, by go_num, HG.out, _, rfl⟩
        case measure => simp [intOf]; omega
      · have HG := Lib.hid (show false = q by
          rw [← HS.out, decide_eq_false]
          intro e; injection e with e _; exact hne e)
        rcases hne2 with g1 | ⟨rfl, g1⟩
        · go_wp2_with fail
          go_quiet (fail)
          go_wp2_with fail
          go_ret
          exact ⟨by rw [← HG.out]; rfl, _, by rw [World.drewN_drewN]⟩
        · go_wp2_with fail
          go_quiet (fail)
          go_wp2_with fail
          go_ret
          exact ⟨by rw [← HG.out]; rfl, _, by rw [World.drewN_drewN]⟩
    · have HG := Lib.hid (show true = q by rw [← hr.out, List.drop_eq_nil_of_le (by rw [HL.out]; omega), List.drop_eq_nil_of_le (by rw [HL'.out]; omega)]; rfl)
      go_wp2_with fail
      go_ret
      exact ⟨by rw [← HG.out]; rfl, _, rfl⟩
set_option maxHeartbeats 1000000 in
theorem l12Value_c (A : Option Addr) (n c : Nat) (t : LT) (w : World) (h : Rd2 w A n t) (hn : n ≤ 1000000) :
    Calls Tryz.prog 46 #[.slice A n c] w fun e w' => e = .returned (.int .i64 (nvL t)) ∧ Below w.heap.size w w' := by
  have hl := h.len
  obtain ⟨v, hv⟩ : ∃ v : Int, ((n : Int) - 3).tdiv 2 = v := ⟨_, rfl⟩
  have hvb : -1 ≤ v ∧ v ≤ 500000 := by
    rw [← hv]
    rcases Int.le_total 3 (n : Int) with h3 | h3
    · rw [Int.tdiv_eq_ediv_of_nonneg (by omega)]; omega
    · have : n = 0 ∨ n = 1 ∨ n = 2 ∨ n = 3 := by omega
      rcases this with rfl | rfl | rfl | rfl <;> decide
  have v0 : IntKind.i64.wrap ((n : Int) - 3) = (n : Int) - 3 := IntWalk.i64_in _ (by omega)
  have v1 : IntKind.i64.wrap v = v := IntWalk.i64_in _ (by omega)
  have HV := Lib.hid (show nvL t = if inB v 0 150 = true ∧ t = numLm v.toNat then v else -1 by rw [nvL, hl, hv])
  have H := Lib.hid h
  clear h
  cases hin : inB v 0 150
  · have HG := Lib.hid (show nvL t = -1 by rw [HV.out, if_neg (fun e => by rw [hin] at e; cases e.1)])
    rw [HG.out]
    go_enter Tryz.func46, Tryz.ntmps46
    go_wp2_with fail
    refine (l00In_b _ _ _ _ hin _).mono ?_
    rintro e w' ⟨rfl, rfl⟩
    go_wp2_with fail
    go_ret
    exact ⟨rfl, below_size⟩
  · have hb := inB_t hin
    obtain ⟨k, rfl⟩ : ∃ k : Nat, v = (k : Int) := ⟨v.toNat, by omega⟩
    obtain ⟨q, hq⟩ : ∃ q, decide (t = numLm k) = q := ⟨_, rfl⟩
    have HQ := Lib.hid hq
    have HG := Lib.hid (show nvL t = if q = true then (k : Int) else -1 by
      rw [HV.out, hin, ← hq, Int.toNat_natCast]
      simp)
    rw [HG.out]
    clear hq
    go_enter Tryz.func46, Tryz.ntmps46
    go_wp2_with fail
    refine (l00In_b _ _ _ _ hin _).mono ?_
    rintro e w' ⟨rfl, rfl⟩
    cases q
    · go_wp2_with fail
      refine (l12Numeral_c k _ (by omega)).mono ?_
      rintro e w1 ⟨A1, c1, rfl, hl1, hw1, hc1, hb1⟩
      have R1 := Lib.hid (show Rd2 w1 A1 (2 * k + 3) (numLm k) from hw1.rd); have B1 := Lib.hid hb1; have H1 := Lib.hid (H.out.below hb1)
      clear hl1 hw1 hc1 hb1
      go_wp2_with fail
      refine (l12Same_c A A1 n (2 * k + 3) c c1 t (numLm k) false w1 H1.out R1.out (by omega) HQ.out).mono ?_
      rintro e w2 ⟨rfl, j, rfl⟩
      go_wp2_with fail
      go_ret
      exact ⟨rfl, below_drewN B1.out j⟩
    · go_wp2_with fail
      refine (l12Numeral_c k _ (by omega)).mono ?_
      rintro e w1 ⟨A1, c1, rfl, hl1, hw1, hc1, hb1⟩
      have R1 := Lib.hid (show Rd2 w1 A1 (2 * k + 3) (numLm k) from hw1.rd); have B1 := Lib.hid hb1; have H1 := Lib.hid (H.out.below hb1)
      clear hl1 hw1 hc1 hb1
      go_wp2_with fail
      refine (l12Same_c A A1 n (2 * k + 3) c c1 t (numLm k) true w1 H1.out R1.out (by omega) HQ.out).mono ?_
      rintro e w2 ⟨rfl, j, rfl⟩
      go_wp2_with fail
      go_ret
      exact ⟨rfl, below_drewN B1.out j⟩
end Go.Proofs.YtebjpmmgdkepjaaGreatDoor
/-
  Contracts of chapter 12: lambda terms of the reference: substituting.
-/
namespace Go.Proofs.YtebjpmmgdkepjaaGreatDoor
open Go.RowKit

def opG (a : List (Int × Int)) (y : (Int × Int) × Nat) : List (Int × Int) := if y.1.1 = 0 then opF a y.1 y.2 else [y.1]
theorem openL_flat (a b : List (Int × Int)) : openL a b = (b.zip (depL b [0])).flatMap (opG a) := mapL_flat _ _ _
theorem opG_len (a : List (Int × Int)) (y : (Int × Int) × Nat) : (opG a y).length ≤ a.length + 1 := by
  unfold opG
  split
  · exact opF_len a y.1 y.2
  · simp
set_option maxHeartbeats 4000000 in
set_option maxRecDepth 100000 in
theorem l12Open_c (A : Option Addr) (n cp : Nat) (b : List (Int × Int)) (A2 : Option Addr) (m cp2 : Nat) (a S : List (Int × Int)) (w : World) (h : Rd2 w A n b) (ha : Rd2 w A2 m a) (hn : n ≤ 400) (hm : m ≤ 400) (hv : endP manyL b 1 = some b.length) (hva : endP manyL a 1 = some a.length) (hok : ∀ x ∈ b, okL x = true) (hoka : ∀ x ∈ a, okL x = true) (hS : openL a b = S) :
    Calls Tryz.prog 125 #[.slice A n cp, .slice A2 m cp2] w fun e w' => ∃ A' N c', e = .returned (.slice A' N c') ∧ Wr w' w.heap.size w'.heap.size A' (N * 2) (S.flatMap enc2) ∧ N ≤ c' ∧ Below w.heap.size w w' := by
  have hl := h.len
  have hdl : (depL b [0]).length = n := by rw [← hl]; exact depL_len hv
  obtain ⟨D, hD⟩ : ∃ D, depL b [0] = D := ⟨_, rfl⟩
  rw [hD] at hdl
  have hDb : ∀ d ∈ D, d ≤ n := fun d hd => by rw [← hD] at hd; have := depL_le (M := 0) (st := [0]) (l := b) (by simp) d hd; omega
  have HSZ := Lib.hid (show (b.zip D).flatMap (opG a) = S by rw [← hS, openL_flat, hD])
  have HL := Lib.hid hl; have HDL := Lib.hid hdl; have HDB := Lib.hid hDb; have HV := Lib.hid hv; have HVA := Lib.hid hva; have HD := Lib.hid hD; have HOK := Lib.hid hok; have HOKA := Lib.hid hoka
  have H := Lib.hid h; have HA := Lib.hid ha
  have hma := ha.len
  have hn1 : 1 ≤ n := by rw [← hl]; rcases Nat.eq_zero_or_pos b.length with h0 | h0; (· rw [List.length_eq_zero_iff.1 h0] at hv; cases hv); (· exact h0)
  have HMA := Lib.hid hma
  have B0 := Lib.hid (show Below w.heap.size w (w.alloc (.cells #[] 62)) from below_size.alloc (Nat.le_refl _) _)
  have O0 := Lib.hid (show Own (w.alloc (.cells #[] 62)) w.heap.size 62 2 (some ⟨w.heap.size, 0, none⟩) 0 0 [] from Own.litK (Nat.le_refl _))
  clear h ha hv hva hok hoka hS hl hdl hDb hD hma
  go_enter Tryz.func125, Tryz.ntmps125
  go_wp2_with fail
  refine (l12Depths_c A n cp b _ (H.out.alloc _) (by omega) HV.out).mono ?_
  rw [HD.out]
  rintro e w2 ⟨AD, c2, rfl, hw2, hb2⟩
  have B2 := Lib.hid (below_chain B0.out B0.out.size hb2)
  have O2 := Lib.hid (O0.out.keep hb2)
  obtain ⟨ag, rfl, hag1, hag2, _⟩ := hw2.2 (by omega)
  have D2 := Lib.hid (show RdI w2 (some ag) n (dpI D) from hw2.rdI)
  have hne0 : w.heap.size ≠ ag.block := by simp at hag1; omega
  have hz2 := B2.out.size
  clear hw2 hb2 O0
  go_wp2_with fail
  go_loopw [5, 7] (fun ov iv wr => ∃ (k mm cc : Nat) (ao : Addr) (b0 : List (Int × Int)), k ≤ n ∧ mm ≤ 401 * k ∧ iv = .int .i64 k ∧ ov = .slice (some ao) mm cc ∧ ao.block ≠ ag.block ∧ Hid (Own wr w.heap.size 62 2 (some ao) mm cc (b0.flatMap enc2)) ∧ Hid (b0 ++ ((b.zip D).drop k).flatMap (opG a) = S) ∧ Hid (RdI wr (some ag) n (dpI D)) ∧ Below w.heap.size w wr) (fun _ iv _ => n - (intOf iv).toNat)
  case atStart => exact ⟨0, 0, 0, ⟨w.heap.size, 0, none⟩, [], by omega, by omega, rfl, rfl, hne0, O2.out, HSZ.out, D2.out, B2.out⟩
  case round =>
    clear O2 D2
    obtain ⟨k, mm, cc, ao, b0, hk, hmm, rfl, rfl, hne, hO, hr, hDd, hb⟩ := hrel
    have HB := Lib.hid hb
    have hzr := hb.size
    by_cases hlt : k < n
    · obtain ⟨ad, x, rfl, hab, hx, hc0, hc1⟩ := (H.out.below hb).at_ hlt
      obtain ⟨d, hd⟩ : ∃ d, D[k]? = some d := ⟨_, List.getElem?_eq_getElem (by rw [HDL.out]; exact hlt)⟩
      have hdn := HDB.out d (List.mem_of_getElem? hd)
      have hox := okL_cases (HOK.out x (List.mem_of_getElem? hx))
      obtain ⟨_, g, e, hag, hg, hcg⟩ := RdI.at_ hDd.out (k := k) hlt
      injection e with e; subst e
      have hgd : g = (d : Int) := by
        rw [dpI, List.getElem?_map, hd] at hg
        injection hg with hg; exact hg.symm
      subst hgd
      have hzk : (b.zip D)[k]? = some (x, d) := by rw [List.getElem?_zip_eq_some]; exact ⟨hx, hd⟩
      have HR := Lib.hid (show b0 ++ (opG a (x, d) ++ ((b.zip D).drop (k + 1)).flatMap (opG a)) = S by rw [← hr.out, drop_at hzk, List.flatMap_cons])
      obtain ⟨t, v⟩ := x
      simp only at hc0 hc1 hox
      obtain ⟨w6, hw6⟩ : ∃ w6, wr.alloc (.cells #[.int .i64 t, .int .i64 v] 62) = w6 := ⟨_, rfl⟩
      have E6 := Lib.hid (show Below wr.heap.size wr w6 by rw [← hw6]; exact below_size.alloc (Nat.le_refl _) _)
      have K6 := Lib.hid (show Blk w6 wr.heap.size 62 #[.int .i64 t, .int .i64 v] by rw [← hw6]; exact Blk.new _ _ _)
      have y0 : w6.cell? ⟨wr.heap.size, 0, none⟩ = some (.int .i64 t) := K6.out.cell 0
      have y1 : w6.cell? ⟨wr.heap.size, 1, none⟩ = some (.int .i64 v) := K6.out.cell 1
      have yd := keepc E6.out hcg
      clear hb hx hr hd hzk hg
      by_cases h0 : t = 0
      · subst h0
        by_cases hvd : v = (d : Int)
        · subst hvd
          obtain ⟨SA, hSA⟩ : ∃ SA, shiftL d a = SA := ⟨_, rfl⟩
          have HSA := Lib.hid hSA
          have hsl : SA.length ≤ m := by rw [← hSA, ← HMA.out]; exact shiftL_len d a
          have HG := Lib.hid (show (b0 ++ SA) ++ ((b.zip D).drop (k + 1)).flatMap (opG a) = S by rw [← HR.out, opG, if_pos rfl, opF, if_pos rfl, hSA, List.append_assoc])
          clear hSA HR
          go_wp2_with fail
          go_quiet (fail)
          obtain ⟨w7, hw7⟩ : ∃ w7, w6.drewN nq = w7 := ⟨_, rfl⟩
          rw [hw7]
          have E7 := Lib.hid (show Below wr.heap.size wr w7 by rw [← hw7]; exact below_drewN E6.out _)
          have K7 := Lib.hid (show Blk w7 wr.heap.size 62 #[.int .i64 0, .int .i64 (d : Int)] by rw [← hw7]; exact K6.out)
          have p7 : w7.cell? ⟨wr.heap.size, 0, none⟩ = some (.int .i64 0) := K7.out.cell 0
          have q7 : w7.cell? ⟨wr.heap.size, 1, none⟩ = some (.int .i64 (d : Int)) := K7.out.cell 1
          have f7 := K7.out.frozen 1
          have d7 := keepc E7.out hcg
          have hz7 := E7.out.size
          clear hw7
          go_wp2_with (first
            | (go_at_call 167; refine (l12Shift_c A2 m cp2 a d SA w7 (HA.out.below (below_chain HB.out hzr E7.out)) (by omega) HVA.out HOKA.out (by omega) HSA.out).mono ?_; rintro e w8 ⟨A8, c8, rfl, hw8, hc8, hb8⟩; have hm8 := len2_of hw8; have R8 := Lib.hid (show Rd2 w8 A8 m SA from hw8.rd); have E8 := Lib.hid (below_chain E7.out hz7 hb8))
            | (at_builtin; refine wp_appLam (by rfl) _ _ (by rfl) w.heap.size _ _ _ _ (by rfl) (by exact hO.out.keep E8.out) _ _ _ SA (by rfl) (by exact R8.out) (by omega) (by have := E8.out.size; omega) ?_; intro A9 c9 w9 own9 hb9 hk9 hg9 hz9))
          rw [← List.flatMap_append] at own9
          have O9 := Lib.hid own9; have B9 := Lib.hid ((below_chain HB.out hzr (E8.out)).trans hb9)
          have hzy := (Below.size (E8.out))
          have DD := Lib.hid (show RdI w9 (some ag) n (dpI D) from Rd.atBlk (RdI.below hDd.out (E8.out)) (fun a ha _ => by injection ha with ha; subst ha; exact hk9 _ (by omega) (fun ad' h => by injection h with h; subst h; exact hne)) hz9)
          obtain ⟨aj, hAj, nej⟩ : ∃ a', A9 = some a' ∧ a'.block ≠ ag.block := by
            rcases hg9 with h | h
            · exact ⟨ao, h, hne⟩
            · exact ⟨_, h, Nat.ne_of_gt (Nat.lt_of_lt_of_le hag hzy)⟩
          subst hAj
          clear own9 hb9 hk9 hg9 hz9
          go_roundw
          case rel => exact ⟨k + 1, mm + m, c9, aj, b0 ++ SA, by omega, by omega, by go_num, rfl, nej, O9.out, HG.out, DD.out, B9.out⟩
          case measure => simp [intOf]; omega
        · have g1 : (v == (d : Int)) = false := by simpa using hvd
          by_cases hgt : (d : Int) < v
          · have g2 : decide ((d : Int) < v) = true := by rw [decide_eq_true_eq]; exact hgt
            have v1 : IntKind.i64.wrap (v - 1) = v - 1 := IntWalk.i64_in _ (by omega)
            have HG := Lib.hid (show (b0 ++ [((0 : Int), v - 1)]) ++ ((b.zip D).drop (k + 1)).flatMap (opG a) = S by rw [← HR.out, opG, if_pos rfl, opF, if_neg hvd, if_pos hgt, List.append_assoc])
            clear HR
            go_wp2_with fail
            go_quiet (fail)
            obtain ⟨w7, hw7⟩ : ∃ w7, w6.drewN nq = w7 := ⟨_, rfl⟩
            rw [hw7]
            have E7 := Lib.hid (show Below wr.heap.size wr w7 by rw [← hw7]; exact below_drewN E6.out _)
            have K7 := Lib.hid (show Blk w7 wr.heap.size 62 #[.int .i64 0, .int .i64 v] by rw [← hw7]; exact K6.out)
            have p7 : w7.cell? ⟨wr.heap.size, 0, none⟩ = some (.int .i64 0) := K7.out.cell 0
            have q7 : w7.cell? ⟨wr.heap.size, 1, none⟩ = some (.int .i64 v) := K7.out.cell 1
            have f7 := K7.out.frozen 1
            have d7 := keepc E7.out hcg
            have hz7 := E7.out.size
            clear hw7
            go_wp2_with fail
            go_quiet (fail)
            obtain ⟨w8, hw8⟩ : ∃ w8, w7.drewN nq = w8 := ⟨_, rfl⟩
            rw [hw8]
            have E8 := Lib.hid (show Below wr.heap.size wr w8 by rw [← hw8]; exact below_drewN E7.out _)
            have K8 := Lib.hid (show Blk w8 wr.heap.size 62 #[.int .i64 0, .int .i64 v] by rw [← hw8]; exact K7.out)
            have p8 : w8.cell? ⟨wr.heap.size, 0, none⟩ = some (.int .i64 0) := K8.out.cell 0
            have q8 : w8.cell? ⟨wr.heap.size, 1, none⟩ = some (.int .i64 v) := K8.out.cell 1
            have f8 := K8.out.frozen 1
            have d8 := keepc E8.out hcg
            have hz8 := E8.out.size
            clear hw8
            obtain ⟨w9, hw9⟩ : ∃ w9, w8.setCell ⟨wr.heap.size, 1, none⟩ (.int .i64 (v - 1)) = w9 := ⟨_, rfl⟩
            have K9 := Lib.hid (show Blk w9 wr.heap.size 62 #[.int .i64 0, .int .i64 (v - 1)] by rw [← hw9]; exact K8.out.set_ 1 _)
            have E9 := Lib.hid (show Below wr.heap.size wr w9 by rw [← hw9]; exact E8.out.setCell (Nat.le_refl _) _)
            have p9 : w9.cell? ⟨wr.heap.size, 0, none⟩ = some (.int .i64 0) := K9.out.cell 0
            have q9 : w9.cell? ⟨wr.heap.size, 1, none⟩ = some (.int .i64 (v - 1)) := K9.out.cell 1
            have hz9 := E9.out.size
            go_wp2_with (at_builtin; refine wp_appLam (by rfl) _ _ (by rfl) w.heap.size _ _ _ _ (by rfl) (by exact hO.out.keep (E9.out.alloc hz9 _)) _ _ _ ([((0 : Int), v - 1)]) (by rfl) (by exact rd_new2 ([((0 : Int), v - 1)]) _ rfl rfl) (by omega) (by first | omega | (simp; omega) | (simp; done)) ?_; intro A10 c10 w10 own10 hb10 hk10 hg10 hz10)
            rw [← List.flatMap_append] at own10
            have O10 := Lib.hid own10; have B10 := Lib.hid ((below_chain HB.out hzr (E9.out.alloc hz9 (.cells #[.int .i64 0, .int .i64 (v - 1)] 62))).trans hb10)
            have hzy := (Below.size (E9.out.alloc hz9 (.cells #[.int .i64 0, .int .i64 (v - 1)] 62)))
            have DD := Lib.hid (show RdI w10 (some ag) n (dpI D) from Rd.atBlk (RdI.below hDd.out (E9.out.alloc hz9 (.cells #[.int .i64 0, .int .i64 (v - 1)] 62))) (fun a ha _ => by injection ha with ha; subst ha; exact hk10 _ (by omega) (fun ad' h => by injection h with h; subst h; exact hne)) hz10)
            obtain ⟨aj, hAj, nej⟩ : ∃ a', A10 = some a' ∧ a'.block ≠ ag.block := by
              rcases hg10 with h | h
              · exact ⟨ao, h, hne⟩
              · exact ⟨_, h, Nat.ne_of_gt (Nat.lt_of_lt_of_le hag hzy)⟩
            subst hAj
            clear own10 hb10 hk10 hg10 hz10
            go_roundw
            case rel => exact ⟨k + 1, mm + 1, c10, aj, b0 ++ [((0 : Int), v - 1)], by omega, by omega, by go_num, rfl, nej, O10.out, HG.out, DD.out, B10.out⟩
            case measure => simp [intOf]; omega
          · have g2 : decide ((d : Int) < v) = false := by rw [decide_eq_false_iff_not]; exact hgt
            have HG := Lib.hid (show (b0 ++ [((0 : Int), v)]) ++ ((b.zip D).drop (k + 1)).flatMap (opG a) = S by rw [← HR.out, opG, if_pos rfl, opF, if_neg hvd, if_neg hgt, List.append_assoc])
            clear HR
            go_wp2_with fail
            go_quiet (fail)
            obtain ⟨w7, hw7⟩ : ∃ w7, w6.drewN nq = w7 := ⟨_, rfl⟩
            rw [hw7]
            have E7 := Lib.hid (show Below wr.heap.size wr w7 by rw [← hw7]; exact below_drewN E6.out _)
            have K7 := Lib.hid (show Blk w7 wr.heap.size 62 #[.int .i64 0, .int .i64 v] by rw [← hw7]; exact K6.out)
            have p7 : w7.cell? ⟨wr.heap.size, 0, none⟩ = some (.int .i64 0) := K7.out.cell 0
            have q7 : w7.cell? ⟨wr.heap.size, 1, none⟩ = some (.int .i64 v) := K7.out.cell 1
            have f7 := K7.out.frozen 1
            have d7 := keepc E7.out hcg
            have hz7 := E7.out.size
            clear hw7
            go_wp2_with fail
            go_quiet (fail)
            obtain ⟨w8, hw8⟩ : ∃ w8, w7.drewN nq = w8 := ⟨_, rfl⟩
            rw [hw8]
            have E8 := Lib.hid (show Below wr.heap.size wr w8 by rw [← hw8]; exact below_drewN E7.out _)
            have K8 := Lib.hid (show Blk w8 wr.heap.size 62 #[.int .i64 0, .int .i64 v] by rw [← hw8]; exact K7.out)
            have p8 : w8.cell? ⟨wr.heap.size, 0, none⟩ = some (.int .i64 0) := K8.out.cell 0
            have q8 : w8.cell? ⟨wr.heap.size, 1, none⟩ = some (.int .i64 v) := K8.out.cell 1
            have f8 := K8.out.frozen 1
            have d8 := keepc E8.out hcg
            have hz8 := E8.out.size
            clear hw8
            go_wp2_with (at_builtin; refine wp_appLam (by rfl) _ _ (by rfl) w.heap.size _ _ _ _ (by rfl) (by exact hO.out.keep (E8.out.alloc hz8 _)) _ _ _ ([((0 : Int), v)]) (by rfl) (by exact rd_new2 ([((0 : Int), v)]) _ rfl rfl) (by omega) (by first | omega | (simp; omega) | (simp; done)) ?_; intro A10 c10 w10 own10 hb10 hk10 hg10 hz10)
            rw [← List.flatMap_append] at own10
            have O10 := Lib.hid own10; have B10 := Lib.hid ((below_chain HB.out hzr (E8.out.alloc hz8 (.cells #[.int .i64 0, .int .i64 v] 62))).trans hb10)
            have hzy := (Below.size (E8.out.alloc hz8 (.cells #[.int .i64 0, .int .i64 v] 62)))
            have DD := Lib.hid (show RdI w10 (some ag) n (dpI D) from Rd.atBlk (RdI.below hDd.out (E8.out.alloc hz8 (.cells #[.int .i64 0, .int .i64 v] 62))) (fun a ha _ => by injection ha with ha; subst ha; exact hk10 _ (by omega) (fun ad' h => by injection h with h; subst h; exact hne)) hz10)
            obtain ⟨aj, hAj, nej⟩ : ∃ a', A10 = some a' ∧ a'.block ≠ ag.block := by
              rcases hg10 with h | h
              · exact ⟨ao, h, hne⟩
              · exact ⟨_, h, Nat.ne_of_gt (Nat.lt_of_lt_of_le hag hzy)⟩
            subst hAj
            clear own10 hb10 hk10 hg10 hz10
            go_roundw
            case rel => exact ⟨k + 1, mm + 1, c10, aj, b0 ++ [((0 : Int), v)], by omega, by omega, by go_num, rfl, nej, O10.out, HG.out, DD.out, B10.out⟩
            case measure => simp [intOf]; omega
      · have g1 : (t == 0) = false := by simpa using h0
        have HG := Lib.hid (show (b0 ++ [(t, v)]) ++ ((b.zip D).drop (k + 1)).flatMap (opG a) = S by rw [← HR.out, opG, if_neg h0, List.append_assoc])
        clear HR
        go_wp2_with fail
        go_quiet (fail)
        obtain ⟨w7, hw7⟩ : ∃ w7, w6.drewN nq = w7 := ⟨_, rfl⟩
        rw [hw7]
        have E7 := Lib.hid (show Below wr.heap.size wr w7 by rw [← hw7]; exact below_drewN E6.out _)
        have K7 := Lib.hid (show Blk w7 wr.heap.size 62 #[.int .i64 t, .int .i64 v] by rw [← hw7]; exact K6.out)
        have p7 : w7.cell? ⟨wr.heap.size, 0, none⟩ = some (.int .i64 t) := K7.out.cell 0
        have q7 : w7.cell? ⟨wr.heap.size, 1, none⟩ = some (.int .i64 v) := K7.out.cell 1
        have f7 := K7.out.frozen 1
        have d7 := keepc E7.out hcg
        have hz7 := E7.out.size
        clear hw7
        go_wp2_with fail
        go_quiet (fail)
        obtain ⟨w8, hw8⟩ : ∃ w8, w7.drewN nq = w8 := ⟨_, rfl⟩
        rw [hw8]
        have E8 := Lib.hid (show Below wr.heap.size wr w8 by rw [← hw8]; exact below_drewN E7.out _)
        have K8 := Lib.hid (show Blk w8 wr.heap.size 62 #[.int .i64 t, .int .i64 v] by rw [← hw8]; exact K7.out)
        have p8 : w8.cell? ⟨wr.heap.size, 0, none⟩ = some (.int .i64 t) := K8.out.cell 0
        have q8 : w8.cell? ⟨wr.heap.size, 1, none⟩ = some (.int .i64 v) := K8.out.cell 1
        have f8 := K8.out.frozen 1
        have d8 := keepc E8.out hcg
        have hz8 := E8.out.size
        clear hw8
        go_wp2_with (at_builtin; refine wp_appLam (by rfl) _ _ (by rfl) w.heap.size _ _ _ _ (by rfl) (by exact hO.out.keep (E8.out.alloc hz8 _)) _ _ _ ([(t, v)]) (by rfl) (by exact rd_new2 ([(t, v)]) _ rfl rfl) (by omega) (by first | omega | (simp; omega) | (simp; done)) ?_; intro A10 c10 w10 own10 hb10 hk10 hg10 hz10)
        rw [← List.flatMap_append] at own10
        have O10 := Lib.hid own10; have B10 := Lib.hid ((below_chain HB.out hzr (E8.out.alloc hz8 (.cells #[.int .i64 t, .int .i64 v] 62))).trans hb10)
        have hzy := (Below.size (E8.out.alloc hz8 (.cells #[.int .i64 t, .int .i64 v] 62)))
        have DD := Lib.hid (show RdI w10 (some ag) n (dpI D) from Rd.atBlk (RdI.below hDd.out (E8.out.alloc hz8 (.cells #[.int .i64 t, .int .i64 v] 62))) (fun a ha _ => by injection ha with ha; subst ha; exact hk10 _ (by omega) (fun ad' h => by injection h with h; subst h; exact hne)) hz10)
        obtain ⟨aj, hAj, nej⟩ : ∃ a', A10 = some a' ∧ a'.block ≠ ag.block := by
          rcases hg10 with h | h
          · exact ⟨ao, h, hne⟩
          · exact ⟨_, h, Nat.ne_of_gt (Nat.lt_of_lt_of_le hag hzy)⟩
        subst hAj
        clear own10 hb10 hk10 hg10 hz10
        go_roundw
        case rel => exact ⟨k + 1, mm + 1, c10, aj, b0 ++ [(t, v)], by omega, by omega, by go_num, rfl, nej, O10.out, HG.out, DD.out, B10.out⟩
        case measure => simp [intOf]; omega
    · have HG := Lib.hid (show b0 = S by
        rw [← hr.out, List.drop_eq_nil_of_le (by rw [List.length_zip, HL.out, HDL.out]; omega)]; simp)
      clear hr hDd hb
      go_wp2_with fail
      go_ret
      rw [← HG.out]
      exact ⟨some ao, mm, cc, rfl, hO.out.wrK, hO.out.cap, HB.out⟩
end Go.Proofs.YtebjpmmgdkepjaaGreatDoor
