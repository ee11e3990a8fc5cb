/-
  Reading functions: the reference's l11Parse and l11Read.
-/
import Derived.Test.YtnoapoaajidncaaDoorC11f
namespace Go.Proofs.YtnoapoaajidncaaDoor
open Go.RowKit
open FTr

theorem pzM_no0 {s : List UInt8} {g : Nat → RdF} {k : Nat} (h : byS s (k + 1) 40 = false) : pzM s g k = ([], k, false) := by rw [pzM, h]; rfl
theorem pzM_no1 {s : List UInt8} {g : Nat → RdF} {k : Nat} {l : List Nd3} {q : Nat} {ok : Bool} (hg : g (k + 2) = (l, q, ok)) (h : ok = false ∨ byS s q 41 = false) : pzM s g k = ([], k, false) := by
  rw [pzM, hg]
  split
  · rw [if_neg]
    rintro ⟨h1, h2⟩
    simp only at h1 h2
    rcases h with h | h
    · rw [h] at h1; cases h1
    · rw [h] at h2; cases h2
  · rfl
theorem pzM_yes {s : List UInt8} {g : Nat → RdF} {k : Nat} {l : List Nd3} {q : Nat} (h0 : byS s (k + 1) 40 = true) (hg : g (k + 2) = (l, q, true)) (h : byS s q 41 = true) : pzM s g k = ((5, hdA l - 1, 0) :: l, q + 1, true) := by
  rw [pzM, if_pos h0, hg, if_pos ⟨rfl, h⟩]
set_option maxHeartbeats 4000000 in
set_option maxRecDepth 100000 in
theorem l11Parse_c (s : List UInt8) (hs : s.length ≤ 1048576) (d : Nat) : ∀ (k : Nat) (w : World), d ≤ 60 → k ≤ 2000000 → Calls Tryd.prog 18 #[.string (bs s), .int .i64 (k : Int), .int .i64 (d : Int)] w (PzOut (pzE s d k) w) := by
  induction d with
  | zero =>
    intro k w _ hk
    obtain ⟨n, hn⟩ : ∃ n, (bs s).size = n := ⟨_, rfl⟩
    have hn2 : n ≤ 1048576 := by rw [← hn, bs_size]; exact hs
    rw [pzE_none (.inr rfl)]
    by_cases h : n ≤ k
    · go_enter Tryd.func18, Tryd.ntmps18
      go_wp2_with fail
      go_ret3
      exact PzOut.bad below_size
    · go_enter Tryd.func18, Tryd.ntmps18
      go_wp2_with fail
      go_ret3
      exact PzOut.bad below_size
  | succ d IH =>
    intro k w hd hk
    obtain ⟨n, hn⟩ : ∃ n, (bs s).size = n := ⟨_, rfl⟩
    have hln : s.length = n := by rw [← hn, bs_size]
    have HLN := Lib.hid hln
    have hn2 : n ≤ 1048576 := by rw [← hln]; exact hs
    obtain ⟨R, hR⟩ : ∃ R, pzE s (d + 1) k = R := ⟨_, rfl⟩
    rw [hR]
    have HIH := Lib.hid IH; have HR := Lib.hid hR
    clear IH hR hln
    by_cases h : n ≤ k
    · have HG := Lib.hid (show ([], k, false) = R by rw [← HR.out, pzE_none (.inl (List.getElem?_eq_none (by rw [HLN.out]; exact h)))])
      go_enter Tryd.func18, Tryd.ntmps18
      go_wp2_with fail
      go_ret3
      rw [← HG.out]
      exact PzOut.bad below_size
    obtain ⟨c, hc⟩ : ∃ c, s[k]? = some c := ⟨_, List.getElem?_eq_getElem (by rw [HLN.out]; omega)⟩
    obtain ⟨x, hx⟩ : ∃ x : Int, (c.toNat : Int) = x := ⟨_, rfl⟩
    have hix := fun w => run_ixS hc hx w
    have HS := Lib.hid (show (if c = 90 then ([(0, dgS s (k + 1), 0)], k + 2, decide (0 ≤ dgS s (k + 1)))
      else if c = 83 then ([(1, 1, 0)], k + 1, true)
      else if c = 80 then ([(2, dgS s (k + 1), dgS s (k + 3))], k + 4, decide (0 ≤ dgS s (k + 1)) && (decide (0 ≤ dgS s (k + 3)) && byS s (k + 2) 46))
      else if c = 77 then pzM s (pzE s d) k
      else if c = 82 then pzT s (pzE s d) k true
      else if c = 67 then pzT s (pzE s d) k false
      else ([], k, false)) = R by rw [← HR.out, pzE_some hc])
    have HEQ := Lib.hid (show (c = 90 ↔ x = 90) ∧ (c = 83 ↔ x = 83) ∧ (c = 80 ↔ x = 80) ∧ (c = 77 ↔ x = 77) ∧ (c = 82 ↔ x = 82) ∧ (c = 67 ↔ x = 67) by
      rw [← hx]; exact ⟨u8_eq (d := 90) (by omega), u8_eq (d := 83) (by omega), u8_eq (d := 80) (by omega), u8_eq (d := 77) (by omega), u8_eq (d := 82) (by omega), u8_eq (d := 67) (by omega)⟩)
    have HC := Lib.hid hc; have HX := Lib.hid hx
    have HCALL := Lib.hid (show ∀ (k : Nat) (ki di : Int) (w : World), k ≤ 2000000 → ki = k → di = d → Calls Tryd.prog 18 #[.string (bs s), .int .i64 ki, .int .i64 di] w (PzOut (pzE s d k) w) from fun k ki di w hk h1 h2 => by
      subst h1; subst h2; exact HIH.out k w (by omega) hk)
    have HTWO := Lib.hid (show ∀ (isR : Bool) (di : Int) (w : World), (x == 82) = isR → di = ((d + 1 : Nat) : Int) → Calls Tryd.prog 31 #[.string (bs s), .int .i64 (k : Int), .int .i64 di] w (PzOut (pzT s (pzE s d) k isR) w) from fun isR di w h1 h2 =>
      l11Two_c s hs d hd (fun k w hk => HIH.out k w (by omega) hk) k x isR c HC.out HX.out h1 di h2 w)
    have hd1 := dgS_bd s (k + 1); have hd3 := dgS_bd s (k + 3)
    obtain ⟨u1, hu1⟩ : ∃ u, dgS s (k + 1) = u := ⟨_, rfl⟩
    obtain ⟨u3, hu3⟩ : ∃ u, dgS s (k + 3) = u := ⟨_, rfl⟩
    rw [hu1, hu3] at HS
    rw [hu1] at hd1
    rw [hu3] at hd3
    have HU1 := Lib.hid hu1; have HU3 := Lib.hid hu3
    clear hc hx HR HIH hu1 hu3
    by_cases hn1 : x = 90
    · subst hn1
      have HG := Lib.hid (show ([(0, u1, 0)], k + 2, decide (0 ≤ u1)) = R by rw [← HS.out, if_pos (HEQ.out.1.2 rfl)])
      clear HS HEQ HTWO
      obtain ⟨q, hq⟩ : ∃ q, decide (0 ≤ u1) = q := ⟨_, rfl⟩
      rw [hq] at HG
      go_enter Tryd.func18, Tryd.ntmps18
      go_wp2_with (first | (go_at_call 29; refine (l11Digit_c s (k + 1) _ (u1) _ hs (by omega) (by omega) HU1.out).mono ?_; rintro e w' ⟨rfl, rfl⟩))
      go_ret3
      rw [← HG.out]
      exact PzOut.leaf (by omega)
    have g1 : (x == 90) = false := by simpa using hn1
    have HS := Lib.hid ((if_neg (show ¬ c = 90 from fun e => hn1 (HEQ.out.1.1 e))).symm.trans HS.out)
    clear hn1
    by_cases hn2' : x = 83
    · subst hn2'
      have HG := Lib.hid (show ([(1, 1, 0)], k + 1, true) = R by rw [← HS.out, if_pos (HEQ.out.2.1.2 rfl)])
      clear HS HEQ HTWO
      go_enter Tryd.func18, Tryd.ntmps18
      go_wp2_with fail
      go_ret3
      rw [← HG.out]
      exact PzOut.leaf (by omega)
    have g2 : (x == 83) = false := by simpa using hn2'
    have HS := Lib.hid ((if_neg (show ¬ c = 83 from fun e => hn2' (HEQ.out.2.1.1 e))).symm.trans HS.out)
    clear hn2'
    by_cases hn3 : x = 80
    · subst hn3
      obtain ⟨b, hb⟩ : ∃ b, byS s (k + 2) 46 = b := ⟨_, rfl⟩
      have H2 := Lib.hid (show byS s (k + 2) (UInt8.ofNat 46) = b from hb)
      have HG := Lib.hid (show ([(2, u1, u3)], k + 4, decide (0 ≤ u1) && (decide (0 ≤ u3) && b)) = R by rw [← HS.out, if_pos (HEQ.out.2.2.1.2 rfl), hb])
      clear HS HEQ HTWO hb
      by_cases h1 : 0 ≤ u1
      · have e1 : decide (0 ≤ u1) = true := decide_eq_true h1
        by_cases h3 : 0 ≤ u3
        · have e3 : decide (0 ≤ u3) = true := decide_eq_true h3
          rw [e1, e3, Bool.true_and, Bool.true_and] at HG
          go_enter Tryd.func18, Tryd.ntmps18
          go_wp2_with (first | (go_at_call 29; refine (l11Digit_c s (k + 1) _ (u1) _ hs (by omega) (by omega) HU1.out).mono ?_; rintro e w' ⟨rfl, rfl⟩) | (go_at_call 29; refine (l11Digit_c s (k + 3) _ (u3) _ hs (by omega) (by omega) HU3.out).mono ?_; rintro e w' ⟨rfl, rfl⟩) | (go_at_call 30; refine (l11Byte_c s (k + 2) _ 46 _ b _ hs (by omega) (by omega) (by omega) (by rfl) H2.out).mono ?_; rintro e w' ⟨rfl, rfl⟩))
          go_ret3
          rw [← HG.out]
          exact PzOut.leaf (by omega)
        · have e3 : decide (0 ≤ u3) = false := decide_eq_false h3
          rw [e1, e3, Bool.true_and, Bool.false_and] at HG
          go_enter Tryd.func18, Tryd.ntmps18
          go_wp2_with (first | (go_at_call 29; refine (l11Digit_c s (k + 1) _ (u1) _ hs (by omega) (by omega) HU1.out).mono ?_; rintro e w' ⟨rfl, rfl⟩) | (go_at_call 29; refine (l11Digit_c s (k + 3) _ (u3) _ hs (by omega) (by omega) HU3.out).mono ?_; rintro e w' ⟨rfl, rfl⟩) | (go_at_call 30; refine (l11Byte_c s (k + 2) _ 46 _ b _ hs (by omega) (by omega) (by omega) (by rfl) H2.out).mono ?_; rintro e w' ⟨rfl, rfl⟩))
          go_ret3
          rw [← HG.out]
          exact PzOut.leaf (by omega)
      · have e1 : decide (0 ≤ u1) = false := decide_eq_false h1
        rw [e1, Bool.false_and] at HG
        go_enter Tryd.func18, Tryd.ntmps18
        go_wp2_with (first | (go_at_call 29; refine (l11Digit_c s (k + 1) _ (u1) _ hs (by omega) (by omega) HU1.out).mono ?_; rintro e w' ⟨rfl, rfl⟩) | (go_at_call 29; refine (l11Digit_c s (k + 3) _ (u3) _ hs (by omega) (by omega) HU3.out).mono ?_; rintro e w' ⟨rfl, rfl⟩) | (go_at_call 30; refine (l11Byte_c s (k + 2) _ 46 _ b _ hs (by omega) (by omega) (by omega) (by rfl) H2.out).mono ?_; rintro e w' ⟨rfl, rfl⟩))
        go_ret3
        rw [← HG.out]
        exact PzOut.leaf (by omega)
    have g3 : (x == 80) = false := by simpa using hn3
    have HS := Lib.hid ((if_neg (show ¬ c = 80 from fun e => hn3 (HEQ.out.2.2.1.1 e))).symm.trans HS.out)
    clear hn3 HU1 HU3 hd1 hd3
    have v1 : IntKind.i64.wrap (((d + 1 : Nat) : Int) - 1) = (d : Int) := by rw [IntWalk.i64_in _ (by omega)]; omega
    by_cases hn4 : x = 77
    · subst hn4
      have HG0 := Lib.hid (show pzM s (pzE s d) k = R by rw [← HS.out, if_pos (HEQ.out.2.2.2.1.2 rfl)])
      clear HS HEQ HTWO
      obtain ⟨b0, hb0⟩ : ∃ b, byS s (k + 1) 40 = b := ⟨_, rfl⟩
      have H0 := Lib.hid (show byS s (k + 1) (UInt8.ofNat 40) = b0 from hb0)
      cases b0
      · have HG := Lib.hid (show ([], k, false) = R by rw [← HG0.out, pzM_no0 hb0])
        clear hb0
        go_enter Tryd.func18, Tryd.ntmps18
        go_wp2_with (first | (go_at_call 30; refine (l11Byte_c s (k + 1) _ 40 _ false _ hs (by omega) (by omega) (by omega) (by rfl) H0.out).mono ?_; rintro e w' ⟨rfl, rfl⟩))
        go_ret3
        rw [← HG.out]
        exact PzOut.bad below_size
      have hbd := pzE_bd s d (k + 2)
      obtain ⟨⟨l0, q0, ok0⟩, hr0⟩ : ∃ r, pzE s d (k + 2) = r := ⟨_, rfl⟩
      rw [hr0] at hbd
      have b1 := hbd.len; have b2 := hbd.next; have b3 := hbd.pos; have b4 := hbd.hd
      simp only at b1 b2 b3 b4
      rw [HLN.out] at b2
      have HRA := Lib.hid hr0
      clear hbd hr0
      cases ok0
      · have HG := Lib.hid (show ([], k, false) = R by rw [← HG0.out, pzM_no1 HRA.out (.inl rfl)])
        clear hb0
        go_enter Tryd.func18, Tryd.ntmps18
        go_wp2_with (first | (go_at_call 30; refine (l11Byte_c s (k + 1) _ 40 _ true _ hs (by omega) (by omega) (by omega) (by rfl) H0.out).mono ?_; rintro e w' ⟨rfl, rfl⟩) | (go_at_call 18; refine (HCALL.out (k + 2) _ _ _ (by omega) (by omega) (by omega)).mono ?_; rw [HRA.out]; rintro e w1 ⟨A1, n1, c1, rfl, hw1, hc1, hb1⟩; have B1 := Lib.hid hb1; have W1 := Lib.hid (show Rd3 w1 A1 n1 l0 from hw1.rd); have z1 := hb1.size; have hl1 : l0.length = n1 := Rd3.len hw1.rd; clear hw1 hb1))
        go_ret3
        rw [← HG.out]
        exact PzOut.bad B1.out
      obtain ⟨b5, hb5⟩ : ∃ b, byS s q0 41 = b := ⟨_, rfl⟩
      have H1 := Lib.hid (show byS s q0 (UInt8.ofNat 41) = b5 from hb5)
      cases b5
      · have HG := Lib.hid (show ([], k, false) = R by rw [← HG0.out, pzM_no1 HRA.out (.inr hb5)])
        clear hb0 hb5
        go_enter Tryd.func18, Tryd.ntmps18
        go_wp2_with (first | (go_at_call 30; refine (l11Byte_c s (k + 1) _ 40 _ true _ hs (by omega) (by omega) (by omega) (by rfl) H0.out).mono ?_; rintro e w' ⟨rfl, rfl⟩) | (go_at_call 18; refine (HCALL.out (k + 2) _ _ _ (by omega) (by omega) (by omega)).mono ?_; rw [HRA.out]; rintro e w1 ⟨A1, n1, c1, rfl, hw1, hc1, hb1⟩; have B1 := Lib.hid hb1; have W1 := Lib.hid (show Rd3 w1 A1 n1 l0 from hw1.rd); have z1 := hb1.size; have hl1 : l0.length = n1 := Rd3.len hw1.rd; clear hw1 hb1) | (go_at_call 30; refine (l11Byte_c s (q0) _ 41 _ false _ hs (by omega) (by omega) (by omega) (by rfl) H1.out).mono ?_; rintro e w' ⟨rfl, rfl⟩))
        go_ret3
        rw [← HG.out]
        exact PzOut.bad B1.out
      have HG := Lib.hid (show ((5, hdA l0 - 1, 0) :: l0, q0 + 1, true) = R by rw [← HG0.out, pzM_yes hb0 HRA.out hb5])
      have HNE := Lib.hid (b3 rfl)
      have v5 : IntKind.i64.wrap (hdA l0 - 1) = hdA l0 - 1 := IntWalk.i64_in _ (by omega)
      clear hb0 hb5 b3
      go_enter Tryd.func18, Tryd.ntmps18
      go_wp2_with (first
        | (go_at_call 30; refine (l11Byte_c s (k + 1) _ 40 _ true _ hs (by omega) (by omega) (by omega) (by rfl) H0.out).mono ?_; rintro e w' ⟨rfl, rfl⟩)
        | (go_at_call 18; refine (HCALL.out (k + 2) _ _ _ (by omega) (by omega) (by omega)).mono ?_; rw [HRA.out]; rintro e w1 ⟨A1, n1, c1, rfl, hw1, hc1, hb1⟩; have B1 := Lib.hid hb1; have W1 := Lib.hid (show Rd3 w1 A1 n1 l0 from hw1.rd); have z1 := hb1.size; have hl1 : l0.length = n1 := Rd3.len hw1.rd; have hn1p : 0 < n1 := (by rw [← hl1]; exact List.length_pos_iff.2 HNE.out); obtain ⟨ad1, rfl, hab1, _⟩ := W1.out.2 (by omega); have hc1c := hd_cell W1.out hn1p; clear hw1 hb1)
        | (go_at_call 30; refine (l11Byte_c s (q0) _ 41 _ true _ hs (by omega) (by omega) (by omega) (by rfl) H1.out).mono ?_; rintro e w' ⟨rfl, rfl⟩)
        | (at_builtin; refine wp_appFunc (by rfl) _ _ (by rfl) w.heap.size _ _ _ [i64 5, i64 (hdA l0 - 1), i64 0] (by rfl) (by exact Own.fullK z1 rfl rfl (by omega)) (some ad1) n1 c1 l0 (by rfl) (by exact W1.out.alloc _) (by omega) (by simp; omega) ?_; intro A6 c6 w6 own6 hb6 hk6 hg6 hz6))
      go_ret3
      rw [← HG.out]
      exact ⟨A6, 1 + n1, c6, rfl, own6.wrK, own6.cap, (B1.out.alloc z1 _).trans hb6⟩
    have g4 : (x == 77) = false := by simpa using hn4
    have HS := Lib.hid ((if_neg (show ¬ c = 77 from fun e => hn4 (HEQ.out.2.2.2.1.1 e))).symm.trans HS.out)
    clear hn4
    by_cases hn5 : x = 82
    · have HG := Lib.hid (show pzT s (pzE s d) k true = R by rw [← HS.out, if_pos (HEQ.out.2.2.2.2.1.2 hn5)])
      have g5 : (x == 82) = true := by simpa using hn5
      have HG5 := Lib.hid g5
      clear HS HEQ hn5
      go_enter Tryd.func18, Tryd.ntmps18
      go_wp2_with (first | (go_at_call 31; refine (HTWO.out true _ _ HG5.out (by omega)).mono ?_; rw [HG.out]; rintro e w1 ⟨A1, n1, c1, rfl, hw1, hc1, hb1⟩))
      go_ret3
      exact ⟨A1, n1, c1, rfl, hw1, hc1, hb1⟩
    have g5 : (x == 82) = false := by simpa using hn5
    have HG5 := Lib.hid g5
    have HS := Lib.hid ((if_neg (show ¬ c = 82 from fun e => hn5 (HEQ.out.2.2.2.2.1.1 e))).symm.trans HS.out)
    clear hn5
    by_cases hn6 : x = 67
    · have HG := Lib.hid (show pzT s (pzE s d) k false = R by rw [← HS.out, if_pos (HEQ.out.2.2.2.2.2.2 hn6)])
      have g6 : (x == 67) = true := by simpa using hn6
      clear HS HEQ hn6
      go_enter Tryd.func18, Tryd.ntmps18
      go_wp2_with (first | (go_at_call 31; refine (HTWO.out false _ _ HG5.out (by omega)).mono ?_; rw [HG.out]; rintro e w1 ⟨A1, n1, c1, rfl, hw1, hc1, hb1⟩))
      go_ret3
      exact ⟨A1, n1, c1, rfl, hw1, hc1, hb1⟩
    have g6 : (x == 67) = false := by simpa using hn6
    have HG := Lib.hid (show (([], k, false) : RdF) = R by rw [← HS.out, if_neg (show ¬ c = 67 from fun e => hn6 (HEQ.out.2.2.2.2.2.1 e))])
    clear HS HEQ hn6
    go_enter Tryd.func18, Tryd.ntmps18
    go_wp2_with fail
    go_ret3
    rw [← HG.out]
    exact PzOut.bad below_size
end Go.Proofs.YtnoapoaajidncaaDoor
