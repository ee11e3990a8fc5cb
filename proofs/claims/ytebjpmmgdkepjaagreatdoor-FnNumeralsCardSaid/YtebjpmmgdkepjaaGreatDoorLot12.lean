/-
  Parts of the proof, one behind the other: contracts of the functions that the law reaches, and plain laws.
-/
import Derived.Test.YtebjpmmgdkepjaaGreatDoorLot04
import Derived.Test.YtebjpmmgdkepjaaGreatDoorLot08
import Derived.Test.YtebjpmmgdkepjaaGreatDoorLot11
/-
  Contracts of chapter 18: variables, applications, normal terms and numerals of the program.
-/
namespace Go.Proofs.YtebjpmmgdkepjaaGreatDoor
open Go.RowKit

set_option maxHeartbeats 1000000 in
theorem equalComb_c (A B : Option Addr) (n m c d : Nat) (xs ys : List (Int × Int)) (q : Bool) (w : World) (h : Rd2 w A n xs) (h' : Rd2 w B m ys) (hn : n ≤ 1000000000) (hq : decide (xs = ys) = q) :
    Calls Tryz.prog 73 #[.slice A n c, .slice B m d] w fun e w' => e = .returned (.bool q) ∧ ∃ k, w' = w.drewN k := by
  have HL := Lib.hid h.len; have HL' := Lib.hid h'.len
  have H := Lib.hid h; have H' := Lib.hid h'; have HQ := Lib.hid hq; clear h h' hq
  by_cases hnm : n = m
  case neg =>
    have g1 : ((n : Int) != (m : Int)) = true := by simp; omega
    have HG := Lib.hid (show false = q by
      rw [← HQ.out, decide_eq_false]
      intro e; apply hnm; rw [← HL.out, ← HL'.out, e])
    go_enter Tryz.func73, Tryz.ntmps73
    go_wp2_with fail
    go_ret
    exact ⟨by rw [← HG.out]; rfl, 0, rfl⟩
  subst hnm
  go_enter Tryz.func73, Tryz.ntmps73
  go_wp2_with fail
  go_loopw [13] (fun iv wr => ∃ k : Nat, k ≤ n ∧ iv = .int .i64 k ∧ Hid (decide (xs.drop k = ys.drop k) = q) ∧ ∃ j, wr = w.drewN j) (fun iv _ => n - (intOf iv).toNat)
  case atStart => exact ⟨0, by omega, rfl, HQ.out, 0, rfl⟩
  case round =>
    obtain ⟨k, hk, rfl, hr, j, rfl⟩ := hrel
    by_cases hlt : k < n
    · obtain ⟨ad, x, rfl, _, hx, hc0, hc1⟩ := H.out.at_ hlt
      obtain ⟨ad', y, rfl, _, hy, hd0, hd1⟩ := H'.out.at_ hlt
      have hc0 : (w.drewN j).cell? (ad.add (k * 2)) = some (i64 x.1) := hc0
      have hc1 : (w.drewN j).cell? ⟨(ad.add (k * 2)).block, (ad.add (k * 2)).off + 1, none⟩ = some (i64 x.2) := hc1
      have hd0 : (w.drewN j).cell? (ad'.add (k * 2)) = some (i64 y.1) := hd0
      have hd1 : (w.drewN j).cell? ⟨(ad'.add (k * 2)).block, (ad'.add (k * 2)).off + 1, none⟩ = some (i64 y.2) := hd1
      obtain ⟨p, v⟩ := x
      obtain ⟨a, b⟩ := y
      have HS := Lib.hid (show decide ((p, v) :: xs.drop (k + 1) = (a, b) :: ys.drop (k + 1)) = q by rw [← hr.out, drop_at hx, drop_at hy])
      simp only at hc0 hc1 hd0 hd1
      clear hx hy hr
      rcases pair_cases p v a b with ⟨_, rfl, rfl⟩ | ⟨hne, hne2⟩
      · have HG := Lib.hid (show decide (xs.drop (k + 1) = ys.drop (k + 1)) = q by rw [← HS.out]; simp)
        go_wp2_with fail
        go_quiet (fail)
        go_wp2_with fail
        go_roundw
        case rel => exact ⟨k + 1, by omega, by go_num, HG.out, _, rfl⟩
        case measure => simp [intOf]; omega
      · have HG := Lib.hid (show false = q by
          rw [← HS.out, decide_eq_false]
          intro e; injection e with e _; exact hne e)
        rcases hne2 with g1 | ⟨rfl, g1⟩
        · go_wp2_with fail
          go_quiet (fail)
          go_wp2_with fail
          go_ret
          exact ⟨by rw [← HG.out]; rfl, _, by rw [World.drewN_drewN]⟩
        · go_wp2_with fail
          go_quiet (fail)
          go_wp2_with fail
          go_ret
          exact ⟨by rw [← HG.out]; rfl, _, by rw [World.drewN_drewN]⟩
    · have HG := Lib.hid (show true = q by rw [← hr.out, List.drop_eq_nil_of_le (by rw [HL.out]; omega), List.drop_eq_nil_of_le (by rw [HL'.out]; omega)]; rfl)
      go_wp2_with fail
      go_ret
      exact ⟨by rw [← HG.out]; rfl, _, rfl⟩
set_option maxHeartbeats 1000000 in
theorem equalLam_c (A B : Option Addr) (n m c d : Nat) (xs ys : List (Int × Int)) (q : Bool) (w : World) (h : Rd2 w A n xs) (h' : Rd2 w B m ys) (hn : n ≤ 1000000000) (hq : decide (xs = ys) = q) :
    Calls Tryz.prog 35 #[.slice A n c, .slice B m d] w fun e w' => e = .returned (.bool q) ∧ ∃ k, w' = w.drewN k := by
  have HL := Lib.hid h.len; have HL' := Lib.hid h'.len
  have H := Lib.hid h; have H' := Lib.hid h'; have HQ := Lib.hid hq; clear h h' hq
  by_cases hnm : n = m
  case neg =>
    have g1 : ((n : Int) != (m : Int)) = true := by simp; omega
    have HG := Lib.hid (show false = q by
      rw [← HQ.out, decide_eq_false]
      intro e; apply hnm; rw [← HL.out, ← HL'.out, e])
    go_enter Tryz.func35, Tryz.ntmps35
    go_wp2_with fail
    go_ret
    exact ⟨by rw [← HG.out]; rfl, 0, rfl⟩
  subst hnm
  go_enter Tryz.func35, Tryz.ntmps35
  go_wp2_with fail
  go_loopw [13] (fun iv wr => ∃ k : Nat, k ≤ n ∧ iv = .int .i64 k ∧ Hid (decide (xs.drop k = ys.drop k) = q) ∧ ∃ j, wr = w.drewN j) (fun iv _ => n - (intOf iv).toNat)
  case atStart => exact ⟨0, by omega, rfl, HQ.out, 0, rfl⟩
  case round =>
    obtain ⟨k, hk, rfl, hr, j, rfl⟩ := hrel
    by_cases hlt : k < n
    · obtain ⟨ad, x, rfl, _, hx, hc0, hc1⟩ := H.out.at_ hlt
      obtain ⟨ad', y, rfl, _, hy, hd0, hd1⟩ := H'.out.at_ hlt
      have hc0 : (w.drewN j).cell? (ad.add (k * 2)) = some (i64 x.1) := hc0
      have hc1 : (w.drewN j).cell? ⟨(ad.add (k * 2)).block, (ad.add (k * 2)).off + 1, none⟩ = some (i64 x.2) := hc1
      have hd0 : (w.drewN j).cell? (ad'.add (k * 2)) = some (i64 y.1) := hd0
      have hd1 : (w.drewN j).cell? ⟨(ad'.add (k * 2)).block, (ad'.add (k * 2)).off + 1, none⟩ = some (i64 y.2) := hd1
      obtain ⟨p, v⟩ := x
      obtain ⟨a, b⟩ := y
      have HS := Lib.hid (show decide ((p, v) :: xs.drop (k + 1) = (a, b) :: ys.drop (k + 1)) = q by rw [← hr.out, drop_at hx, drop_at hy])
      simp only at hc0 hc1 hd0 hd1
      clear hx hy hr
      rcases pair_cases p v a b with ⟨_, rfl, rfl⟩ | ⟨hne, hne2⟩
      · have HG := Lib.hid (show decide (xs.drop (k + 1) = ys.drop (k + 1)) = q by rw [← HS.out]; simp)
        go_wp2_with fail
        go_quiet (fail)
        go_wp2_with fail
        go_roundw
        case rel => exact ⟨k + 1, by omega, by go_num, HG.out, _, rfl⟩
        case measure => simp [intOf]; omega
      · have HG := Lib.hid (show false = q by
          rw [← HS.out, decide_eq_false]
          intro e; injection e with e _; exact hne e)
        rcases hne2 with g1 | ⟨rfl, g1⟩
        · go_wp2_with fail
          go_quiet (fail)
          go_wp2_with fail
          go_ret
          exact ⟨by rw [← HG.out]; rfl, _, by rw [World.drewN_drewN]⟩
        · go_wp2_with fail
          go_quiet (fail)
          go_wp2_with fail
          go_ret
          exact ⟨by rw [← HG.out]; rfl, _, by rw [World.drewN_drewN]⟩
    · have HG := Lib.hid (show true = q by rw [← hr.out, List.drop_eq_nil_of_le (by rw [HL.out]; omega), List.drop_eq_nil_of_le (by rw [HL'.out]; omega)]; rfl)
      go_wp2_with fail
      go_ret
      exact ⟨by rw [← HG.out]; rfl, _, rfl⟩
theorem combVar_c (v : Int) (w : World) : Calls Tryz.prog 65 #[.int .i64 v] w fun e w' => e = .returned (.slice (some ⟨w.heap.size, 0, none⟩) 1 1) ∧ w' = w.alloc (.cells #[.int .i64 4, .int .i64 v] 100) := by
  go_enter Tryz.func65, Tryz.ntmps65
  go_wp2_with fail
  go_ret
  exact ⟨rfl, rfl⟩
theorem applyComb_c (A : Option Addr) (n c : Nat) (xs : List (Int × Int)) (G : Option Addr) (m mc N : Nat) (its : List ItV) (w : World) (h : Rd2 w A n xs) (hG : RdV w 2 G m its) (hm : m ≤ 11) (hn : n ≤ 1000000) (hs : sumV its ≤ 1000000) (hN : m + n + sumV its = N) :
    Calls Tryz.prog 67 #[.slice A n c, .slice G m mc] w (CatOut 2 N ((List.replicate m ((0 : Int), (0 : Int))).flatMap enc2 ++ xs.flatMap enc2 ++ its.flatMap ItV.vs) w) := by
  have HA := Lib.hid (appliedComb_c (0, 0) A n c xs G m mc N its w h hG hm hn hs hN)
  clear h hG hs hN
  go_enter Tryz.func67, Tryz.ntmps67
  go_wp2_with fail
  refine HA.out.mono ?_
  rintro e w1 ⟨A1, c1, rfl, hw1, hc1, hb1⟩
  have W1 := Lib.hid hw1; have B1 := Lib.hid hb1
  clear hw1 hb1 HA
  go_wp2_with fail
  go_ret
  exact ⟨A1, c1, rfl, W1.out, hc1, B1.out⟩
def nmX : Option (List (Int × Int) × Nat × Bool) → List (Int × Int) × Int × Int
  | some (t, s, true) => (t, s, 0)
  | _ => ([], 0, 5)
def nmR (c : List (Int × Int)) (b : Nat) : List (Int × Int) × Int × Int := if validC c = true then nmX (runC b c 0) else ([], 0, 5)
theorem nmR_valid {c : List (Int × Int)} {b : Nat} (h : (nmR c b).2.2 = 0) : validC (nmR c b).1 = true := by
  unfold nmR at *
  by_cases hv : validC c = true
  · rw [if_pos hv] at h ⊢
    cases hX : runC b c 0 with
    | none => rw [hX] at h; simp [nmX] at h
    | some x =>
      obtain ⟨t, s, q⟩ := x
      rw [hX] at h
      cases q
      · simp [nmX] at h
      · exact (runC_valid hv hX).1
  · rw [if_neg hv] at h; simp at h
/-- a normal term of the call's own, the steps, the code -/
def NmOut (R : List (Int × Int) × Int × Int) (w : World) (e : Ending) (w' : World) : Prop := ∃ A N cap, e = .returned (.tuple #[.slice A N cap, .int .i64 R.2.1, .int .i64 R.2.2]) ∧ Rd2 w' A N R.1 ∧ N ≤ 1000000 ∧ Below w.heap.size w w'
set_option maxHeartbeats 1000000 in
theorem normalComb_c (A : Option Addr) (n cp : Nat) (c : List (Int × Int)) (b : Nat) (R : List (Int × Int) × Int × Int) (w : World) (h : Rd2 w A n c) (hn : n ≤ 1000000) (hb : inB (b : Int) 1 20000 = true) (hR : nmR c b = R) :
    Calls Tryz.prog 72 #[.slice A n cp, .int .i64 b] w (NmOut R w) := by
  have H := Lib.hid h; clear h
  by_cases hv : validC c = true
  case neg =>
    have HR := Lib.hid (show ([], 0, 5) = R by rw [← hR, nmR, if_neg hv])
    have HV := Lib.hid (show validC c = false by simpa using hv)
    clear hv hR
    go_enter Tryz.func72, Tryz.ntmps72
    go_wp2_with (go_at_call 37; refine (validComb_c _ _ _ c false _ H.out (by omega) HV.out).mono ?_; rintro e w1 ⟨rfl, hb1⟩)
    go_ret3
    rw [← HR.out]
    exact ⟨none, 0, 0, rfl, Rd2.none0, by omega, hb1⟩
  obtain ⟨X, hX⟩ : ∃ X, runC b c 0 = X := ⟨_, rfl⟩
  have HR := Lib.hid (show nmX X = R by rw [← hR, nmR, if_pos hv, hX])
  obtain ⟨Y, hY⟩ : ∃ Y, rcR c b = Y := ⟨_, rfl⟩
  have HY := Lib.hid (show rcX X = Y by rw [← hY, rcR, if_neg (by rw [hv]; simp), if_neg (by rw [hb]; simp), show ((b : Int)).toNat = b by omega, hX])
  have HYY := Lib.hid hY
  have HV := Lib.hid hv
  clear hR hX hY hv hb
  go_enter Tryz.func72, Tryz.ntmps72
  go_wp2_with (go_at_call 37; refine (validComb_c _ _ _ c true _ H.out (by omega) HV.out).mono ?_; rintro e w1 ⟨rfl, hb1⟩)
  have R1 := Lib.hid (H.out.below hb1); have B1 := Lib.hid hb1
  clear hb1
  refine (iRunComb_c _ _ _ c b _ R1.out (by omega)).mono ?_
  rw [HYY.out]
  rintro e w2 ⟨A2, N2, c2, rfl, hw2, hN2, hb2⟩
  have W2 := Lib.hid (show Rd2 w2 A2 N2 Y.1 from hw2.rd); have B2 := Lib.hid (below_chain B1.out B1.out.size hb2)
  clear hw2 hb2 HYY
  cases X with
  | none =>
    obtain rfl : Y = ([], 0, false, 5) := HY.out.symm
    have HG := Lib.hid (show ([], 0, 5) = R from HR.out)
    go_wp2_with fail
    go_ret3
    rw [← HG.out]
    exact ⟨none, 0, 0, rfl, Rd2.none0, by omega, B2.out⟩
  | some x =>
    obtain ⟨t, s, q⟩ := x
    obtain rfl : Y = (t, (s : Int), q, 0) := HY.out.symm
    cases q
    · have HG := Lib.hid (show ([], 0, 5) = R from HR.out)
      go_wp2_with fail
      go_ret3
      rw [← HG.out]
      exact ⟨none, 0, 0, rfl, Rd2.none0, by omega, B2.out⟩
    · have HG := Lib.hid (show (t, (s : Int), (0 : Int)) = R from HR.out)
      go_wp2_with fail
      go_ret3
      rw [← HG.out]
      exact ⟨_, _, _, rfl, W2.out, hN2, B2.out⟩
set_option maxHeartbeats 2000000 in
set_option maxRecDepth 100000 in
theorem combVariables_c (A : Option Addr) (n cp : Nat) (c : List (Int × Int)) (R : List Int) (w : World) (h : Rd2 w A n c) (hn : n ≤ 100000) (hR : normV (varsC c) = R) :
    Calls Tryz.prog 39 #[.slice A n cp] w fun e w' => ∃ A' cap, e = .returned (.slice A' R.length cap) ∧ Wr w' w.heap.size w'.heap.size A' R.length (R.map i64) ∧ R.length ≤ n ∧ Below w.heap.size w w' := by
  have HL := Lib.hid h.len
  have H := Lib.hid h; have HR := Lib.hid hR; clear h hR
  go_enter Tryz.func39, Tryz.ntmps39
  go_wp2_with fail
  go_loopw [3, 9] (fun ov iv wr => ∃ (k m g cc : Nat) (acc : List Int), k ≤ n ∧ m ≤ k ∧ iv = .int .i64 k ∧ ov = .slice (some ⟨g, 0, none⟩) m cc ∧ Hid (Own wr w.heap.size 2 1 (some ⟨g, 0, none⟩) m cc (acc.map i64)) ∧ Hid (acc ++ varsC (c.drop k) = varsC c) ∧ Below w.heap.size w wr) (fun _ iv _ => n - (intOf iv).toNat)
  case atStart => exact ⟨0, 0, w.heap.size, 0, [], by omega, by omega, rfl, rfl, Own.lit (Nat.le_refl _), rfl, below_size.alloc (Nat.le_refl _) _⟩
  case round =>
    obtain ⟨k, m, g, cc, acc, hk, hmk, rfl, rfl, hO, hr, hb⟩ := hrel
    have HB := Lib.hid hb
    have hwz := hb.size
    by_cases hlt : k < n
    · obtain ⟨ad, x, rfl, hab, hx, hc0, hc1⟩ := (H.out.below hb).at_ hlt
      obtain ⟨t, v⟩ := x
      have HS := Lib.hid (show acc ++ varsC ((t, v) :: c.drop (k + 1)) = varsC c by rw [← hr.out, drop_at hx])
      simp only at hc0 hc1
      clear hx hb hr
      obtain ⟨w4, hw4⟩ : ∃ w4, wr.alloc (.cells #[.int .i64 t, .int .i64 v] 100) = w4 := ⟨_, rfl⟩
      have B4 := Lib.hid (show Below w.heap.size w w4 by rw [← hw4]; exact HB.out.alloc hwz _)
      have O4 := Lib.hid (show Own w4 w.heap.size 2 1 (some ⟨g, 0, none⟩) m cc (acc.map i64) by rw [← hw4]; exact hO.out.alloc _)
      have x0 : w4.cell? ⟨wr.heap.size, 0, none⟩ = some (.int .i64 t) := by rw [← hw4]; exact new_cell _ _ _ 0
      have x1 : w4.cell? ⟨wr.heap.size, 1, none⟩ = some (.int .i64 v) := by rw [← hw4]; exact new_cell _ _ _ 1
      have hz4 := B4.out.size
      by_cases h4 : t = 4
      · subst h4
        have HG := Lib.hid (show (acc ++ [v]) ++ varsC (c.drop (k + 1)) = varsC c by rw [← HS.out]; simp [varsC])
        go_wp2_with (at_builtin; refine wp_app1 (by rfl) _ _ 29 2 (.int .i64 0) 8 (by rfl) Tryz.underlying29 info_i64 rfl w.heap.size (some ⟨g, 0, none⟩) m cc (acc.map i64) (by rfl) (by exact O4.out.alloc _) w4.heap.size (i64 v) (by rfl) (by exact new_cell _ _ _ 0) rfl (by omega) (by omega) (by simp; omega) ?_; intro g' cap w3 own3 hb3 hk3 hg3 hz3)
        have O3 := Lib.hid own3; have B3 := Lib.hid ((B4.out.alloc hz4 _).trans hb3)
        clear own3 hb3 hk3 hg3 hz3 x0 x1
        go_wp2_with fail
        go_roundw
        case rel => exact ⟨k + 1, m + 1, g', cap, acc ++ [v], by omega, by omega, by go_num, rfl, by unfold Hid; rw [List.map_append]; exact O3.out, HG.out, B3.out⟩
        case measure => simp [intOf]; omega
      · have g4 : (t == 4) = false := by simpa using h4
        have HG := Lib.hid (show acc ++ varsC (c.drop (k + 1)) = varsC c by rw [← HS.out]; simp [varsC, h4])
        go_wp2_with fail
        go_roundw
        case rel => exact ⟨k + 1, m, g, cc, acc, by omega, by omega, by go_num, rfl, O4.out, HG.out, B4.out⟩
        case measure => simp [intOf]; omega
    · have HG := Lib.hid (show acc = varsC c by rw [← hr.out, List.drop_eq_nil_of_le (by rw [HL.out]; omega)]; simp [varsC])
      have hcap := hO.out.cap
      have W0 := Lib.hid (show Wr wr w.heap.size wr.heap.size (some ⟨g, 0, none⟩) m ((varsC c).map i64) by rw [← HG.out]; exact hO.out.wr)
      have hml : (varsC c).length = m := W0.out.rdI.len
      clear hr hb
      go_wp2_with fail
      refine (sortI_c g m cc _ _ _ wr W0.out (by omega)).mono ?_
      rintro e w1 ⟨rfl, hw1, hb1⟩
      have W1 := Lib.hid hw1; have B1 := Lib.hid (HB.out.trans hb1)
      have hz1 := hb1.size
      clear hw1 hb1
      go_wp2_with fail
      refine (compactI_c g m cc _ _ _ w1 W1.out (by omega) hcap).mono ?_
      rw [show Lib.compact (sortL (varsC c)) = R from HR.out]
      rintro e w2 ⟨rfl, hw2, hb2⟩
      have W2 := Lib.hid (hw2.wider (Nat.le_refl _) (Nat.le_trans hz1 hb2.size)); have B2 := Lib.hid (B1.out.trans hb2)
      clear hw2 hb2
      have hRl : R.length ≤ n := by have := normV_len (varsC c); rw [HR.out, hml] at this; omega
      go_wp2_with fail
      go_ret
      exact ⟨_, cc, rfl, W2.out, hRl, B2.out⟩
end Go.Proofs.YtebjpmmgdkepjaaGreatDoor
/-
  Contracts of chapter 18: the number of a combinator term, the program's.
-/
namespace Go.Proofs.YtebjpmmgdkepjaaGreatDoor
open Go.RowKit

theorem two_blks (w : World) (a b : Array Value) (ta tb : TypeId) : Blk ((w.alloc (.cells a ta)).alloc (.cells b tb)) w.heap.size ta a ∧ Blk ((w.alloc (.cells a ta)).alloc (.cells b tb)) (w.heap.size + 1) tb b := by
  refine ⟨(Blk.new w _ _).alloc _, ?_⟩
  have := Blk.new (w.alloc (.cells a ta)) tb b
  rw [World.size_alloc] at this; exact this
set_option maxHeartbeats 4000000 in
set_option maxRecDepth 100000 in
theorem numeralOfComb_c (A : Option Addr) (n cp : Nat) (c : List (Int × Int)) (b : Nat) (R : Int × Int × Int) (w : World) (h : Rd2 w A n c) (hv : validC c = true) (hb : inB (b : Int) 1 20000 = true) (hR : nuN c b = R) :
    Calls Tryz.prog 40 #[.slice A n cp, .int .i64 b] w fun e w' => e = .returned (.tuple #[.int .i64 R.1, .int .i64 R.2.1, .int .i64 R.2.2]) ∧ Below w.heap.size w w' := by
  obtain ⟨hv1, hv2, hv3⟩ := validC_end hv
  have hl := h.len
  rw [hl] at hv2 hv3
  have H := Lib.hid h; have HL := Lib.hid hl; have HB0 := Lib.hid hb
  have hTl : (appV c [0, 1]).length = n + 4 := by rw [appV_len, hl]; rfl
  obtain ⟨Y, hY⟩ : ∃ Y, nmR (appV c [0, 1]) b = Y := ⟨_, rfl⟩
  have HY := Lib.hid hY
  obtain ⟨X, hX⟩ : ∃ X, runC b (appV c [0, 1]) 0 = X := ⟨_, rfl⟩
  have HVT := Lib.hid (show validC (appV c [0, 1]) = decide (n + 4 ≤ 400) by rw [validC_appV hv [0, 1] (by decide), hTl])
  have HK := Lib.hid (show Y.2.2 = 0 ∧ (∃ s : Nat, Y.2.1 = s ∧ (if cntR Y.1 = true then ((((Y.1.length - 1) / 2 : Nat) : Int), (s : Int), (0 : Int)) else ((0 : Int), (0 : Int), (3 : Int))) = R) ∧ validC Y.1 = true ∨ Y = ([], 0, 5) ∧ ((0 : Int), (0 : Int), (5 : Int)) = R by
    by_cases h4 : n + 4 ≤ 400
    · have hvt : validC (appV c [0, 1]) = true := by rw [HVT.out, decide_eq_true_eq]; exact h4
      have e1 : nmX X = Y := by rw [← hY, nmR, if_pos hvt, hX]
      have e2 : nuX X = R := by rw [← hR, nuN, if_pos (by rw [hTl]; exact h4), hX]
      cases X with
      | none => exact .inr ⟨e1.symm, e2⟩
      | some x =>
        obtain ⟨o, s, q⟩ := x
        cases q
        · exact .inr ⟨e1.symm, e2⟩
        · refine .inl ?_
          rw [← e1]
          exact ⟨rfl, ⟨s, rfl, e2⟩, (runC_valid hvt hX).1⟩
    · refine .inr ⟨?_, ?_⟩
      · rw [← hY, nmR, if_neg]; rw [HVT.out, decide_eq_true_eq]; exact h4
      · rw [← hR, nuN, if_neg (by rw [hTl]; exact h4)])
  clear h hl hv hv1 hR hY hX hb hTl HVT
  go_enter Tryz.func40, Tryz.ntmps40
  go_wp2_with (go_at_call 65; refine (combVar_c _ _).mono ?_; rintro e w1 ⟨rfl, rfl⟩)
  have BS := three_blks w #[.int .i64 4, .int .i64 0] #[.int .i64 4, .int .i64 1] #[.slice (some ⟨w.heap.size, 0, none⟩) 1 1, .slice (some ⟨w.heap.size + 1, 0, none⟩) 1 1] 100 100 37
  refine (applyComb_c A n cp c _ 2 2 (n + 4) [itV1 w.heap.size 0, itV1 (w.heap.size + 1) 1] _ (((H.out.alloc _).alloc _).alloc _) (rdVC BS.2.2 (by simp [hdV, itV1, itC]) rfl (fun i hi => by
    simp only [List.mem_cons, List.not_mem_nil, or_false] at hi
    rcases hi with rfl | rfl
    · exact itV1_ok BS.1
    · exact itV1_ok BS.2.1)) (by omega) (by omega) (by simp [sumV, itV1, itC]) (by simp [sumV, itV1, itC]; omega)).mono ?_
  rintro e w1 ⟨A1, c1, rfl, hw1, hc1, hb1⟩
  have B1 := Lib.hid (up3 hb1)
  have W1 := Lib.hid (show Rd2 w1 A1 (n + 4) (appV c [0, 1]) by
    have := hw1.rd
    simpa [Rd2, appV, varT, itV1, itC, List.flatMap_append, List.append_assoc] using this)
  clear hw1 hb1 BS
  go_wp2_with fail
  refine (normalComb_c _ _ c1 _ b Y _ W1.out (by omega) HB0.out HY.out).mono ?_
  rintro e w2 ⟨A2, N2, c2, rfl, hr2, hN2, hb2⟩
  have B2 := Lib.hid (below_chain B1.out B1.out.size hb2); have R2 := Lib.hid hr2
  clear hr2 hb2 W1 HY
  rcases HK.out with ⟨k1, ⟨s, k2, k3⟩, k4⟩ | ⟨k1, k2⟩
  case inr =>
    subst k1
    have HG := Lib.hid k2
    clear HK k2
    go_wp2_with fail
    go_ret3
    rw [← HG.out]
    exact ⟨rfl, B2.out⟩
  obtain ⟨o, y1, y2⟩ := Y
  simp only at k1 k2 k3 k4 R2
  subst k1; subst k2
  have hve := validC_end k4
  have hol := R2.out.len
  rw [hol] at hve k3
  have hN1 := hve.2.1
  have hN4 := hve.2.2
  have HCN := Lib.hid (cntR_num (validC_all k4))
  have HG := Lib.hid k3
  have HOL := Lib.hid hol
  clear HK k3 k4 hve hol
  obtain ⟨z, hz⟩ : ∃ z, (N2 - 1) / 2 = z := ⟨_, rfl⟩
  rw [hz] at HG
  have vz : ((N2 : Int) - 1) / 2 = (z : Int) := by omega
  have vz' : ((N2 : Int) - 1).tdiv 2 = (z : Int) := by rw [Int.tdiv_eq_ediv_of_nonneg (by omega)]; exact vz
  have HZ := Lib.hid hz
  clear hz
  go_wp2_with (first
    | (go_at_call 68; refine (sizeComb_c _ _ _ _ (by omega)).mono ?_; rintro e w' ⟨rfl, rfl⟩)
    | (go_at_call 65; refine (combVar_c _ _).mono ?_; rintro e w3 ⟨rfl, rfl⟩))
  have B3 := Lib.hid (show Below w.heap.size w (w2.alloc (.cells #[.int .i64 4, .int .i64 1] 100)) from B2.out.alloc B2.out.size _)
  have S3 := Lib.hid (show Rd2 (w2.alloc (.cells #[.int .i64 4, .int .i64 1] 100)) (some ⟨w2.heap.size, 0, none⟩) 1 (numC 0) from (Blk.new w2 _ _).rd rfl (by simp))
  have R3 := Lib.hid (show Below w2.heap.size w2 (w2.alloc (.cells #[.int .i64 4, .int .i64 1] 100)) from below_size.alloc (Nat.le_refl _) _)
  go_loopw [11, 32] (fun nv kv wr => ∃ (k N cc : Nat) (A : Option Addr), k ≤ z ∧ kv = .int .i64 k ∧ nv = .slice A N cc ∧ Hid (N = 2 * k + 1) ∧ Hid (Rd2 wr A N (numC k)) ∧ Below w2.heap.size w2 wr ∧ Below w.heap.size w wr) (fun _ kv _ => z - (intOf kv).toNat)
  case atStart => exact ⟨0, 1, 1, some ⟨w2.heap.size, 0, none⟩, by omega, rfl, rfl, rfl, S3.out, R3.out, B3.out⟩
  case round =>
    obtain ⟨k, N, cc, A, hk, rfl, rfl, hN, hR, hb2, hb⟩ := hrel
    have HB2 := Lib.hid hb2; have HB := Lib.hid hb
    clear hb2 hb
    have hNb : N ≤ 1000 := by have := hN.out; have := HZ.out; omega
    by_cases hlt : k < z
    · go_wp2_with (go_at_call 65; refine (combVar_c _ _).mono ?_; rintro e w3 ⟨rfl, rfl⟩)
      have BS := two_blks wr #[.int .i64 4, .int .i64 0] #[.slice A N cc] 100 37
      refine (applyComb_c (some ⟨wr.heap.size, 0, none⟩) 1 1 [(4, 0)] _ 1 1 (1 + 1 + N) [itC A N cc (numC k)] _ (BS.1.rd rfl (by simp)) (rdVC BS.2 (by simp [hdV, itC]) rfl (fun i hi => by
        rw [List.mem_singleton] at hi; subst hi
        exact itC_ok ((hR.out.alloc _).alloc _))) (by omega) (by omega) (by simp [sumV, itC]; omega) (by simp [sumV, itC])).mono ?_
      rintro e w4 ⟨A4, c4, rfl, hw4, hc4, hb4⟩
      have E4 := Lib.hid (up2 hb4)
      have W4 := Lib.hid (show Rd2 w4 A4 (1 + 1 + N) (numC (k + 1)) by
        have := hw4.rd
        simpa [Rd2, numC, itC, List.flatMap_append, List.append_assoc] using this)
      clear hw4 hb4 BS
      go_wp2_with fail
      go_roundw
      case rel => exact ⟨k + 1, 1 + 1 + N, c4, A4, by omega, by go_num, rfl, by have := hN.out; unfold Hid; omega, W4.out, below_chain HB2.out HB2.out.size E4.out, below_chain HB.out HB.out.size E4.out⟩
      case measure => simp [intOf]; omega
    · obtain rfl : k = z := by omega
      obtain ⟨q, hq⟩ : ∃ q, decide (o = numC k) = q := ⟨_, rfl⟩
      have HQ := Lib.hid hq
      have HCQ := Lib.hid (show cntR o = q by rw [HCN.out, HOL.out, HZ.out]; exact hq)
      have RO := Lib.hid (R2.out.below HB2.out)
      clear hq
      cases q
      · have HF := Lib.hid (show ((0 : Int), (0 : Int), (3 : Int)) = R by rw [← HG.out, if_neg (by rw [HCQ.out]; simp)])
        go_wp2_with (go_at_call 73; refine (equalComb_c _ _ _ _ _ _ o (numC k) false _ RO.out hR.out (by omega) HQ.out).mono ?_; rintro e w5 ⟨rfl, j, rfl⟩)
        go_ret3
        rw [← HF.out]
        exact ⟨rfl, below_drewN HB.out _⟩
      · have HF := Lib.hid (show ((k : Int), (s : Int), (0 : Int)) = R by rw [← HG.out, if_pos HCQ.out])
        go_wp2_with (go_at_call 73; refine (equalComb_c _ _ _ _ _ _ o (numC k) true _ RO.out hR.out (by omega) HQ.out).mono ?_; rintro e w5 ⟨rfl, j, rfl⟩)
        go_ret3
        rw [← HF.out]
        exact ⟨rfl, below_drewN HB.out _⟩
end Go.Proofs.YtebjpmmgdkepjaaGreatDoor
/-
  Lambda terms in prefix notation in plain Lean: pairs (kind, index). Nothing of the program.
-/
namespace Go.Proofs.YtebjpmmgdkepjaaGreatDoor
open Go.RowKit

def manyL (k : Int) : Nat := if k = 1 then 1 else if k = 2 then 2 else 0
def okL (x : Int × Int) : Bool := inB x.1 0 2 && (if x.1 = 0 then inB x.2 0 399 else decide (x.2 = 0))
def validL (c : List (Int × Int)) : Bool := inB c.length 1 400 && c.all okL && decide (endP manyL c 1 = some c.length)
/-- the reference's loop: the terms that are still open -/
def needL : List (Int × Int) → Nat → Bool
  | [], n => n == 0
  | x :: l, n => n != 0 && okL x && needL l (n - 1 + manyL x.1)
theorem needL_eq : ∀ (l : List (Int × Int)) (n : Nat), needL l n = (l.all okL && decide (endP manyL l n = some l.length))
  | [], 0 => by simp [needL, endP_zero]
  | [], n + 1 => by simp [needL, endP_nil]
  | x :: l, 0 => by simp [needL, endP_zero]
  | x :: l, n + 1 => by
    have h : (endP manyL (x :: l) (n + 1) = some (x :: l).length) ↔ (endP manyL l (n + manyL x.1) = some l.length) := by
      rw [endP_cons, List.length_cons]
      cases endP manyL l (n + manyL x.1) <;> simp
    have h' : decide (endP manyL (x :: l) (n + 1) = some (x :: l).length) = decide (endP manyL l (n + manyL x.1) = some l.length) := decide_eq_decide.2 h
    rw [needL, needL_eq l, List.all_cons, h']
    simp [Bool.and_assoc]
theorem validL_need (c : List (Int × Int)) : validL c = (inB c.length 1 400 && needL c 1) := by rw [validL, needL_eq, Bool.and_assoc]
theorem validL_end {c : List (Int × Int)} (h : validL c = true) : endP manyL c 1 = some c.length ∧ 1 ≤ c.length ∧ c.length ≤ 400 := by
  simp only [validL, Bool.and_eq_true, decide_eq_true_eq] at h
  have := inB_t h.1.1
  exact ⟨h.2, by omega, by omega⟩
theorem validL_ok {c : List (Int × Int)} (h : validL c = true) : ∀ x ∈ c, okL x = true := by
  simp only [validL, Bool.and_eq_true] at h
  exact List.all_eq_true.1 h.1.2
theorem okL_cases {x : Int × Int} (h : okL x = true) : (x.1 = 0 ∧ 0 ≤ x.2 ∧ x.2 ≤ 399) ∨ (x.1 = 1 ∧ x.2 = 0) ∨ (x.1 = 2 ∧ x.2 = 0) := by
  simp only [okL, Bool.and_eq_true] at h
  have h1 := inB_t h.1
  have h2 := h.2
  split at h2
  · have := inB_t h2; omega
  · have : x.2 = 0 := by simpa using h2
    omega
theorem manyL_le (k : Int) : manyL k ≤ 2 := by unfold manyL; split <;> (try split) <;> omega
/-- the depths that wait behind an element -/
def pushL (k : Int) (d : Nat) (st : List Nat) : List Nat := if k = 1 then (d + 1) :: st else if k = 2 then d :: d :: st else st
theorem pushL_len (k : Int) (d : Nat) (st : List Nat) : (pushL k d st).length = st.length + manyL k := by
  unfold pushL manyL; split
  · simp
  · split <;> simp
theorem pushL_app (k : Int) (d : Nat) (ds st : List Nat) : pushL k d (ds ++ st) = pushL k d ds ++ st := by unfold pushL; split <;> (try split) <;> rfl
theorem pushL_le {k : Int} {d M : Nat} {st : List Nat} (hd : d ≤ M) (h : ∀ x ∈ st, x ≤ M + 1) : ∀ x ∈ pushL k d st, x ≤ M + 1 := by
  intro x hx
  unfold pushL at hx
  split at hx
  · rcases List.mem_cons.1 hx with rfl | hx
    · omega
    · exact h x hx
  · split at hx
    · simp only [List.mem_cons] at hx
      rcases hx with rfl | rfl | hx
      · omega
      · omega
      · exact h x hx
    · exact h x hx
/-- the depths of the elements, and what becomes of a term whose variables are replaced -/
def depL : List (Int × Int) → List Nat → List Nat
  | [], _ => []
  | _ :: _, [] => []
  | x :: l, d :: st => d :: depL l (pushL x.1 d st)
def mapL (F : Int × Int → Nat → List (Int × Int)) : List (Int × Int) → List Nat → List (Int × Int)
  | [], _ => []
  | _ :: _, [] => []
  | x :: l, d :: st => (if x.1 = 0 then F x d else [x]) ++ mapL F l (pushL x.1 d st)
theorem mapL_flat (F : Int × Int → Nat → List (Int × Int)) : ∀ (l : List (Int × Int)) (st : List Nat), mapL F l st = (l.zip (depL l st)).flatMap fun y => if y.1.1 = 0 then F y.1 y.2 else [y.1]
  | [], _ => rfl
  | _ :: _, [] => by simp [mapL, depL]
  | x :: l, d :: st => by rw [mapL, depL, List.zip_cons_cons, List.flatMap_cons, mapL_flat F l]
theorem depL_len : ∀ {l : List (Int × Int)} {st : List Nat}, endP manyL l st.length = some l.length → (depL l st).length = l.length
  | [], _, _ => by simp [depL]
  | x :: l, [], h => by rw [List.length_nil, endP_zero] at h; simp at h
  | x :: l, d :: st, h => by
    rw [List.length_cons, endP_cons] at h
    obtain ⟨q, hq, e⟩ := Option.map_eq_some_iff.1 h
    simp at e; subst e
    rw [depL, List.length_cons, List.length_cons, depL_len (by rw [pushL_len]; exact hq)]
theorem depL_le : ∀ {l : List (Int × Int)} {st : List Nat} {M : Nat}, (∀ x ∈ st, x ≤ M) → ∀ d ∈ depL l st, d ≤ M + l.length
  | [], _, _, _, d, hd => by simp [depL] at hd
  | _ :: _, [], _, _, d, hd => by simp [depL] at hd
  | x :: l, e :: st, M, h, d, hd => by
    have he := h e (by simp)
    rw [depL] at hd
    rcases List.mem_cons.1 hd with rfl | hd
    · omega
    · have := depL_le (M := M + 1) (pushL_le he fun y hy => by have := h y (by simp [hy]); omega) d hd
      simp; omega
theorem mapL_app {F : Int × Int → Nat → List (Int × Int)} : ∀ {a b : List (Int × Int)} {ds st : List Nat}, endP manyL a ds.length = some a.length → mapL F (a ++ b) (ds ++ st) = mapL F a ds ++ mapL F b st
  | [], b, [], st, _ => by simp [mapL]
  | [], b, d :: ds, st, h => by rw [List.length_cons, endP_nil] at h; cases h
  | x :: l, b, [], st, h => by rw [List.length_nil, endP_zero] at h; simp at h
  | x :: l, b, d :: ds, st, h => by
    rw [List.length_cons, endP_cons] at h
    obtain ⟨q, hq, e⟩ := Option.map_eq_some_iff.1 h
    simp at e; subst e
    rw [List.cons_append, List.cons_append, mapL, mapL, pushL_app, mapL_app (by rw [pushL_len]; exact hq), List.append_assoc]
theorem mapL_len {F : Int × Int → Nat → List (Int × Int)} {M : Nat} (hM : 1 ≤ M) (hF : ∀ x d, (F x d).length ≤ M) : ∀ (l : List (Int × Int)) (st : List Nat), (mapL F l st).length ≤ l.length * M
  | [], _ => by simp [mapL]
  | _ :: _, [] => by simp [mapL]
  | x :: l, d :: st => by
    have h1 := mapL_len hM hF l (pushL x.1 d st)
    have h2 : (if x.1 = 0 then F x d else [x]).length ≤ M := by
      split
      · exact hF x d
      · simp; omega
    rw [mapL, List.length_append, List.length_cons, Nat.succ_mul]; omega
/-- shifting the free variables -/
def shE (by_ : Nat) (x : Int × Int) (d : Nat) : Int × Int := if x.1 = 0 ∧ (d : Int) ≤ x.2 then (x.1, x.2 + by_) else x
def shiftL (by_ : Nat) (l : List (Int × Int)) : List (Int × Int) := mapL (fun x d => [shE by_ x d]) l [0]
theorem mapL_zip (G : Int × Int → Nat → Int × Int) (hG : ∀ x d, x.1 ≠ 0 → G x d = x) : ∀ (l : List (Int × Int)) (st : List Nat), mapL (fun x d => [G x d]) l st = List.zipWith G l (depL l st)
  | [], _ => rfl
  | _ :: _, [] => by simp [mapL, depL]
  | x :: l, d :: st => by
    rw [mapL, depL, List.zipWith_cons_cons, mapL_zip G hG l]
    split
    · rfl
    · rename_i h; rw [hG x d h]; rfl
theorem shE_ne {b : Nat} {x : Int × Int} {d : Nat} (h : x.1 ≠ 0) : shE b x d = x := by rw [shE, if_neg (fun e => h e.1)]
theorem shiftL_zip (b : Nat) (l : List (Int × Int)) : shiftL b l = List.zipWith (shE b) l (depL l [0]) := mapL_zip _ (fun _ _ h => shE_ne h) l [0]
theorem shiftL_len (b : Nat) (l : List (Int × Int)) : (shiftL b l).length ≤ l.length := by rw [shiftL_zip, List.length_zipWith]; omega
/-- the body of an abstraction with an argument in place of its variable -/
def opF (a : List (Int × Int)) (x : Int × Int) (d : Nat) : List (Int × Int) := if x.2 = d then shiftL d a else [if (d : Int) < x.2 then (x.1, x.2 - 1) else x]
def openL (a b : List (Int × Int)) : List (Int × Int) := mapL (opF a) b [0]
theorem opF_len (a : List (Int × Int)) (x : Int × Int) (d : Nat) : (opF a x d).length ≤ a.length + 1 := by
  unfold opF
  split
  · have := shiftL_len d a; omega
  · simp
theorem openL_len (a b : List (Int × Int)) : (openL a b).length ≤ b.length * (a.length + 1) := mapL_len (by omega) (opF_len a) b [0]
/-- the first redex -/
def redB : List (Int × Int) → Bool
  | x :: y :: _ => decide (x.1 = 2) && decide (y.1 = 1)
  | _ => false
def redL (c : List (Int × Int)) : Nat → Nat → Option Nat
  | 0, _ => none
  | f + 1, k => if redB (c.drop k) = true then some k else redL c f (k + 1)
theorem redL_some {c : List (Int × Int)} : ∀ {f k i : Nat}, redL c f k = some i → k ≤ i ∧ i < k + f ∧ redB (c.drop i) = true
  | 0, k, i, h => by cases h
  | f + 1, k, i, h => by
    rw [redL] at h
    split at h
    · injection h with h; subst h; exact ⟨Nat.le_refl _, by omega, by assumption⟩
    · obtain ⟨h1, h2, h3⟩ := redL_some h; exact ⟨by omega, by omega, h3⟩
theorem redB_at {c : List (Int × Int)} {k : Nat} {x y : Int × Int} (hx : c[k]? = some x) (hy : c[k + 1]? = some y) : redB (c.drop k) = (decide (x.1 = 2) && decide (y.1 = 1)) := by
  rw [drop_at hx, drop_at hy]; rfl
theorem redB_last {c : List (Int × Int)} {k : Nat} (h : c.length ≤ k + 1) : redB (c.drop k) = false := by
  have : (c.drop k).length ≤ 1 := by rw [List.length_drop]; omega
  match c.drop k, this with
  | [], _ => rfl
  | [x], _ => rfl
  | x :: y :: l, h => simp at h
theorem redB_true {c : List (Int × Int)} {k : Nat} (h : redB (c.drop k) = true) : ∃ x y, c[k]? = some x ∧ c[k + 1]? = some y ∧ x.1 = 2 ∧ y.1 = 1 := by
  have h0 : ∀ l : List (Int × Int), c.drop k = l → redB l = true → ∃ x y, c[k]? = some x ∧ c[k + 1]? = some y ∧ x.1 = 2 ∧ y.1 = 1 := by
    intro l hl hr
    match l, hr with
    | x :: y :: l, hr =>
      simp only [redB, Bool.and_eq_true, decide_eq_true_eq] at hr
      have e0 : (c.drop k)[0]? = some x := by rw [hl]; rfl
      have e1 : (c.drop k)[1]? = some y := by rw [hl]; rfl
      rw [List.getElem?_drop] at e0 e1
      exact ⟨x, y, e0, e1, hr.1, hr.2⟩
  exact h0 _ rfl h
/-- where the term that begins at an index ends -/
def endL (c : List (Int × Int)) (k : Nat) : Nat := k + (endP manyL (c.drop k) 1).getD 0
def bodyL (c : List (Int × Int)) (k : Nat) : List (Int × Int) := (c.drop (k + 2)).take (endL c (k + 1) - (k + 2))
def argL (c : List (Int × Int)) (k : Nat) : List (Int × Int) := (c.drop (endL c (k + 1))).take (endL c (endL c (k + 1)) - endL c (k + 1))
def stepL (c : List (Int × Int)) (k : Nat) : List (Int × Int) := c.take k ++ (openL (argL c k) (bodyL c k) ++ c.drop (endL c (endL c (k + 1))))
theorem stepL_len {c : List (Int × Int)} {k : Nat} (hc : c.length ≤ 400) : (stepL c k).length ≤ 200000 := by
  have h1 := openL_len (argL c k) (bodyL c k)
  have h2 : (argL c k).length ≤ 400 := by rw [argL, List.length_take, List.length_drop]; omega
  have h3 : (bodyL c k).length ≤ 400 := by rw [bodyL, List.length_take, List.length_drop]; omega
  have h4 : (bodyL c k).length * ((argL c k).length + 1) ≤ 400 * 401 := Nat.mul_le_mul h3 (by omega)
  simp only [stepL, List.length_append, List.length_take, List.length_drop]; omega
/-- a redex in a term: its body and its argument are terms -/
theorem red_parts {c : List (Int × Int)} {k : Nat} (h : endP manyL c 1 = some c.length) (hr : redB (c.drop k) = true) :
    ∃ p q, endP manyL (c.drop (k + 2)) 1 = some p ∧ endL c (k + 1) = k + 2 + p ∧ endP manyL (c.drop (k + 1)) 1 = some (p + 1) ∧ endP manyL (c.drop (k + 2 + p)) 1 = some q ∧ endL c (k + 2 + p) = k + 2 + p + q ∧ k + 2 + p + q ≤ c.length ∧ 1 ≤ p ∧ 1 ≤ q := by
  obtain ⟨x, y, hx, hy, hx2, hy1⟩ := redB_true hr
  obtain ⟨hk, _⟩ := List.getElem?_eq_some_iff.1 hx
  obtain ⟨o, ho, h1⟩ := endP_drop h hk
  rw [show o = 1 + (o - 1) by omega] at h1
  obtain ⟨r, s, h2, _, hrs⟩ := endP_add h1
  have hle := (endP_le h2).1
  rw [List.length_drop] at hle
  rw [drop_at hx, show (1 : Nat) = 0 + 1 from rfl, endP_cons, hx2, show 0 + manyL 2 = 1 + 1 from rfl] at h2
  obtain ⟨t, h3, rfl⟩ := Option.map_eq_some_iff.1 h2
  obtain ⟨p1, q, h4, h5, rfl⟩ := endP_add h3
  have h4' := h4
  rw [drop_at hy, show (1 : Nat) = 0 + 1 from rfl, endP_cons, hy1, show 0 + manyL 1 = 0 + 1 from rfl] at h4
  obtain ⟨p, h6, rfl⟩ := Option.map_eq_some_iff.1 h4
  have e1 : endL c (k + 1) = k + 2 + p := by rw [endL, h4']; simp; omega
  rw [List.drop_drop, show k + 1 + (p + 1) = k + 2 + p by omega] at h5
  exact ⟨p, q, h6, e1, h4', h5, by rw [endL, h5]; rfl, by omega, endP_pos h6, endP_pos h5⟩
/-- the run: the term, the steps, whether it is normal; none: a term is not valid -/
def runL : Nat → List (Int × Int) → Nat → Option (List (Int × Int) × Nat × Bool)
  | 0, c, n => match redL c c.length 0 with
    | none => some (c, n, true)
    | some _ => some (c, n, false)
  | b + 1, c, n => match redL c c.length 0 with
    | none => some (c, n, true)
    | some k => if validL (stepL c k) then runL b (stepL c k) (n + 1) else none
def runKL (b : Nat) (c : List (Int × Int)) (n : Nat) : Option Nat → Option (List (Int × Int) × Nat × Bool)
  | none => some (c, n, true)
  | some k => if b = 0 then some (c, n, false) else if validL (stepL c k) then runL (b - 1) (stepL c k) (n + 1) else none
theorem runL_eq (b : Nat) (c : List (Int × Int)) (n : Nat) : runL b c n = runKL b c n (redL c c.length 0) := by
  cases b with
  | zero => rw [runL]; cases redL c c.length 0 <;> rfl
  | succ b => rw [runL]; cases redL c c.length 0 <;> simp [runKL]
theorem runL_valid : ∀ {b : Nat} {c : List (Int × Int)} {n : Nat} {t : List (Int × Int)} {s : Nat} {q : Bool}, validL c = true → runL b c n = some (t, s, q) → validL t = true ∧ n ≤ s ∧ s ≤ n + b
  | 0, c, n, t, s, q, hv, h => by
    rw [runL_eq] at h
    cases hf : redL c c.length 0 with
    | none => rw [hf] at h; simp [runKL] at h; obtain ⟨rfl, rfl, _⟩ := h; exact ⟨hv, by omega, by omega⟩
    | some k => rw [hf] at h; simp [runKL] at h; obtain ⟨rfl, rfl, _⟩ := h; exact ⟨hv, by omega, by omega⟩
  | b + 1, c, n, t, s, q, hv, h => by
    rw [runL_eq] at h
    cases hf : redL c c.length 0 with
    | none => rw [hf] at h; simp [runKL] at h; obtain ⟨rfl, rfl, _⟩ := h; exact ⟨hv, by omega, by omega⟩
    | some k =>
      rw [hf] at h
      simp only [runKL, Nat.add_sub_cancel] at h
      rw [if_neg (by omega)] at h
      split at h
      · rename_i hs
        have := runL_valid hs h
        exact ⟨this.1, by omega, by omega⟩
      · cases h
/-- the answer: the term, the steps, whether it is normal, the code -/
def rcL (c : List (Int × Int)) (budget : Int) : List (Int × Int) × Int × Bool × Int :=
  if validL c = false then ([], 0, false, 1)
  else if inB budget 1 20000 = false then ([], 0, false, 2)
  else rcX (runL budget.toNat c 0)
end Go.Proofs.YtebjpmmgdkepjaaGreatDoor
