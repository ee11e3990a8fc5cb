/-
  Contracts of chapter 18: AgreeComb of the program.
-/
import Derived.Test.YtfgnhdmiglobhaaC18i
namespace Go.Proofs.Ytfgnhdmiglobhaa
open Go.RowKit

theorem nm_st (c : List (Int × Int)) (vs : List Int) (b : Nat) : (stC c vs b = none ∧ nmR (appV c vs) b = ([], 0, 5)) ∨ ∃ t, ∃ s : Int, stC c vs b = some t ∧ nmR (appV c vs) b = (t, s, 0) := by
  unfold stC nmR
  by_cases hv : validC (appV c vs) = true
  · rw [if_pos hv, if_pos hv]
    cases runC b (appV c vs) 0 with
    | none => exact .inl ⟨rfl, rfl⟩
    | some x =>
      obtain ⟨t, s, q⟩ := x
      cases q
      · exact .inl ⟨rfl, rfl⟩
      · exact .inr ⟨t, s, rfl, rfl⟩
  · rw [if_neg hv, if_neg hv]; exact .inl ⟨rfl, rfl⟩
set_option maxHeartbeats 4000000 in
set_option maxRecDepth 100000 in
theorem iAgreeComb0_c (A : Option Addr) (n cp : Nat) (a : List (Int × Int)) (B : Option Addr) (m dp : Nat) (b : List (Int × Int)) (k bud : Int) (w : World) (ha : Rd2 w A n a) (hb : Rd2 w B m b) (hn : n ≤ 1000000000) (hm : m ≤ 1000000000) :
    Calls Try.prog 17 #[.slice A n cp, .slice B m dp, .int .i64 k, .int .i64 bud] w (AgOut (agR a b k bud) w) := by
  obtain ⟨R, hR⟩ : ∃ R, agR a b k bud = R := ⟨_, rfl⟩
  rw [hR]
  have HA := Lib.hid ha; have HB := Lib.hid hb
  obtain ⟨W1, hW1⟩ : ∃ W1, w.alloc (.cells #[.slice A n cp, .slice B m dp] 24) = W1 := ⟨_, rfl⟩
  have E1 := Lib.hid (show Below w.heap.size w W1 by rw [← hW1]; exact below_size.alloc (Nat.le_refl _) _)
  have P1 := Lib.hid (show RdP W1 (some ⟨w.heap.size, 0, none⟩) 2 [⟨A, n, cp, a⟩, ⟨B, m, dp, b⟩] by
    refine ⟨?_, fun t ht => ?_⟩
    · have : Blk W1 w.heap.size 24 #[.slice A n cp, .slice B m dp] := by rw [← hW1]; exact Blk.new w _ _
      exact this.rd rfl (by simp)
    · simp only [List.mem_cons, List.not_mem_nil, or_false] at ht
      rcases ht with rfl | rfl
      · exact ⟨ha.below E1.out, hn⟩
      · exact ⟨hb.below E1.out, hm⟩)
  cases hva : (validC a && validC b)
  · have HR := Lib.hid (show (false, (1 : Int)) = R by rw [← hR, agR, if_pos hva])
    have VA := Lib.hid hva; clear hva hR ha hb
    go_enter Try.func17, Try.ntmps17
    go_wp2_with fail
    refine (areCombs2_c _ 2 _ _ false _ P1.out VA.out).mono ?_
    rintro e w1 ⟨rfl, hb1⟩
    go_wp2_with fail
    go_ret2
    rw [← HR.out]
    exact ⟨rfl, below_chain E1.out E1.out.size hb1⟩
  cases hib : inB bud 1 20000
  · have HR := Lib.hid (show (false, (2 : Int)) = R by rw [← hR, agR, if_neg (by rw [hva]; simp), if_pos (by rw [hib]; rfl)])
    have VA := Lib.hid hva; clear hva hR ha hb
    go_enter Try.func17, Try.ntmps17
    go_wp2_with fail
    refine (areCombs2_c _ 2 _ _ true _ P1.out VA.out).mono ?_
    rintro e w1 ⟨rfl, hb1⟩
    go_wp2_with fail
    refine (budgetOkC_b _ false (by assumption) _).mono ?_
    rintro e w' ⟨rfl, rfl⟩
    go_wp2_with fail
    go_ret2
    rw [← HR.out]
    exact ⟨rfl, below_chain E1.out E1.out.size hb1⟩
  cases hik : inB k 0 8
  · have HR := Lib.hid (show (false, (2 : Int)) = R by rw [← hR, agR, if_neg (by rw [hva]; simp), if_pos (by rw [hib, hik]; rfl)])
    have VA := Lib.hid hva; clear hva hR ha hb
    go_enter Try.func17, Try.ntmps17
    go_wp2_with fail
    refine (areCombs2_c _ 2 _ _ true _ P1.out VA.out).mono ?_
    rintro e w1 ⟨rfl, hb1⟩
    go_wp2_with fail
    refine (budgetOkC_b _ true (by assumption) _).mono ?_
    rintro e w' ⟨rfl, rfl⟩
    go_wp2_with fail
    refine (within_b _ _ _ false (by assumption) _).mono ?_
    rintro e w' ⟨rfl, rfl⟩
    go_wp2_with fail
    go_ret2
    rw [← HR.out]
    exact ⟨rfl, below_chain E1.out E1.out.size hb1⟩
  have hvv : validC a = true ∧ validC b = true := by simpa using hva
  obtain ⟨hv1, hv2⟩ := hvv
  have hb1' := inB_t hib
  have hk1 := inB_t hik
  have HIB := Lib.hid hib
  obtain ⟨bn, rfl⟩ : ∃ bn : Nat, bud = bn := ⟨bud.toNat, by omega⟩
  obtain ⟨kn, rfl⟩ : ∃ kn : Nat, k = kn := ⟨k.toNat, by omega⟩
  have hna := (validC_end hv1).2.2; have hnb := (validC_end hv2).2.2
  rw [ha.len] at hna; rw [hb.len] at hnb
  obtain ⟨M, hM⟩ : ∃ M, agM a b = M := ⟨_, rfl⟩
  have hMb : 0 ≤ M ∧ M ≤ 400 := by rw [← hM]; exact agM_in (validC_all hv1) (validC_all hv2)
  obtain ⟨NA, hNA⟩ : ∃ NA, normV (varsC a) = NA := ⟨_, rfl⟩
  obtain ⟨NB, hNB⟩ : ∃ NB, normV (varsC b) = NB := ⟨_, rfl⟩
  obtain ⟨na, hnal⟩ : ∃ na, NA.length = na := ⟨_, rfl⟩
  obtain ⟨nb, hnbl⟩ : ∃ nb, NB.length = nb := ⟨_, rfl⟩
  have HTM := Lib.hid (show topI (NA ++ NB) = M by
    rw [← hM, agM]
    refine topI_congr fun y => ?_
    rw [List.mem_append, List.mem_append, ← hNA, ← hNB, normV_mem, normV_mem])
  have HIN := Lib.hid (show ∀ v ∈ NA ++ NB, 0 ≤ v ∧ v ≤ 399 from fun v hv => by
    rcases List.mem_append.1 hv with h | h
    · rw [← hNA, normV_mem] at h; exact varsC_in (validC_all hv1) h
    · rw [← hNB, normV_mem] at h; exact varsC_in (validC_all hv2) h)
  obtain ⟨S1, hS1⟩ : ∃ S, stC a (upV M kn) bn = S := ⟨_, rfl⟩
  obtain ⟨S2, hS2⟩ : ∃ S, stC b (upV M kn) bn = S := ⟨_, rfl⟩
  have HR := Lib.hid (show agX S1 S2 = R by
    rw [← hR, agR, if_neg (by rw [hva]; simp), if_neg (by rw [hib, hik]; simp), hM, show ((kn : Int)).toNat = kn by omega, show ((bn : Int)).toNat = bn by omega, hS1, hS2])
  obtain ⟨Y1, hY1⟩ : ∃ Y, nmR (appV a (upV M kn)) bn = Y := ⟨_, rfl⟩
  obtain ⟨Y2, hY2⟩ : ∃ Y, nmR (appV b (upV M kn)) bn = Y := ⟨_, rfl⟩
  have HY1 := Lib.hid hY1; have HY2 := Lib.hid hY2
  have N1 := Lib.hid (show (S1 = none ∧ Y1 = ([], 0, 5)) ∨ ∃ t, ∃ s : Int, S1 = some t ∧ Y1 = (t, s, 0) by rw [← hS1, ← hY1]; exact nm_st _ _ _)
  have N2 := Lib.hid (show (S2 = none ∧ Y2 = ([], 0, 5)) ∨ ∃ t, ∃ s : Int, S2 = some t ∧ Y2 = (t, s, 0) by rw [← hS2, ← hY2]; exact nm_st _ _ _)
  have HNA := Lib.hid hNA; have HNB := Lib.hid hNB; have LA := Lib.hid hnal; have LB := Lib.hid hnbl
  have VA := Lib.hid hva
  clear hva hv1 hv2 hR ha hb hM hNA hNB hnal hnbl hS1 hS2 hY1 hY2
  go_enter Try.func17, Try.ntmps17
  go_wp2_with fail
  refine (areCombs2_c _ 2 _ _ true _ P1.out VA.out).mono ?_
  rintro e w2 ⟨rfl, hb2⟩
  have E2 := Lib.hid (below_chain E1.out E1.out.size hb2)
  have HA2 := Lib.hid (HA.out.below E2.out)
  clear hb2 hW1 P1
  go_wp2_with fail
  refine (budgetOkC_b _ true (by assumption) _).mono ?_
  rintro e w' ⟨rfl, rfl⟩
  go_wp2_with fail
  refine (within_b _ _ _ true (by assumption) _).mono ?_
  rintro e w' ⟨rfl, rfl⟩
  go_wp2_with fail
  refine (combVariables_c _ _ _ a NA _ HA2.out (by omega) HNA.out).mono ?_
  rintro e w3 ⟨A3, c3, he3, hw3, hl3, hb3⟩
  rw [LA.out] at he3 hw3 hl3
  subst he3
  have W3 := Lib.hid hw3; have E3 := Lib.hid (below_chain E2.out E2.out.size hb3)
  have HB3 := Lib.hid (HB.out.below E3.out)
  clear hw3 hb3 HA2
  go_wp2_with fail
  refine (combVariables_c _ _ _ b NB _ HB3.out (by omega) HNB.out).mono ?_
  rintro e w4 ⟨A4, c4, he4, hw4, hl4, hb4⟩
  rw [LB.out] at he4 hw4 hl4
  subst he4
  have W4 := Lib.hid hw4.rdI; have W34 := Lib.hid (show RdI w4 A3 na NA from (W3.out.below hb4).rdI); have E4 := Lib.hid (below_chain E3.out E3.out.size hb4)
  clear hw4 hb4 HB3 W3
  go_wp2_with fail
  have HRV := Lib.hid (rdV2 (Blk.new w4 56 #[.slice A3 na c3, .slice A4 nb c4]) (W34.out.alloc _) (W4.out.alloc _))
  refine (joined_c _ 2 2 _ _ HRV.out (by omega) (by simp [sumV]; omega)).mono ?_
  rintro e w5 ⟨A5, c5, rfl, hw5, hc5, hb5⟩
  have hsum : sumV [(⟨A3, na, c3, NA.map i64⟩ : ItV), ⟨A4, nb, c4, NB.map i64⟩] = na + nb := by simp [sumV]
  rw [hsum] at hw5 hc5
  rw [hsum]
  have O5 := Lib.hid (show RdI w5 A5 (na + nb) (NA ++ NB) by
    have := hw5.rd
    rw [Nat.mul_one] at this
    simpa [RdI, List.flatMap_cons] using this)
  have E5 := Lib.hid (below_chain E4.out E4.out.size (up1 hb5))
  clear hw5 hb5 hsum HRV W34 W4
  go_wp2_with fail
  go_loopw [10, 41] (fun mv iv wr => ∃ (j : Nat) (mm : Int), j ≤ na + nb ∧ 0 ≤ mm ∧ mm ≤ 400 ∧ iv = .int .i64 j ∧ mv = .int .i64 mm ∧ Hid (((NA ++ NB).drop j).foldl (fun m v => max m (v + 1)) mm = M) ∧ wr = w5) (fun _ iv _ => na + nb - (intOf iv).toNat)
  case atStart => exact ⟨0, 0, by omega, by omega, by omega, rfl, rfl, HTM.out, by first | rfl | trivial⟩
  case round =>
    obtain ⟨j, mm, hj, hm0, hm4, rfl, rfl, hr, rfl⟩ := hrel
    by_cases hlt : j < na + nb
    · obtain ⟨ad, v, rfl, hab, hv, hc⟩ := O5.out.at_ hlt
      have hvb := HIN.out v (List.mem_of_getElem? hv)
      have HG := Lib.hid (show ((NA ++ NB).drop (j + 1)).foldl (fun m v => max m (v + 1)) (max mm (v + 1)) = M by rw [← hr.out, drop_at hv, List.foldl_cons])
      clear hv hr
      go_wp2_with fail
      go_roundw
      case rel => exact ⟨j + 1, max mm (v + 1), by omega, by omega, by omega, by go_num, rfl, HG.out, by first | rfl | trivial⟩
      case measure => simp [intOf]; omega
    · have HG := Lib.hid (show mm = M by rw [← hr.out, List.drop_eq_nil_of_le (by rw [O5.out.len]; omega)]; rfl)
      obtain rfl : mm = M := HG.out
      clear hr HG HTM HIN
      go_wp2_with fail
      go_loopw [13, 52] (fun gv iv wr => ∃ (j cc : Nat) (G : Option Addr) (ps : List (Nat × Int)), j ≤ kn ∧ iv = .int .i64 j ∧ gv = .slice G j cc ∧ Hid (ArgsAt wr w.heap.size G j cc ps) ∧ Hid (ps.map (·.2) = upV mm j) ∧ Below w.heap.size w wr) (fun _ iv _ => kn - (intOf iv).toNat)
      case atStart => exact ⟨0, 0, some ⟨wr.heap.size, 0, none⟩, [], by omega, rfl, rfl, ⟨Own.lit E5.out.size, fun p hp => by cases hp⟩, rfl, E5.out.alloc E5.out.size _⟩
      case round =>
        obtain ⟨wo, rfl⟩ : ∃ wo : World, wo = wr := ⟨_, rfl⟩
        obtain ⟨j, cc, G, ps, hj, rfl, rfl, hG, hps, hb⟩ := hrel
        have HBw := Lib.hid hb
        have hwz := hb.size
        by_cases hlt2 : j < kn
        · have v1 : IntKind.i64.wrap (mm + (j : Int)) = mm + (j : Int) := IntWalk.i64_in _ (by omega)
          have B4 := Lib.hid (show Below w.heap.size w (wo.alloc (.cells #[.int .i64 4, .int .i64 (mm + (j : Int))] 50)) from HBw.out.alloc hwz _)
          go_wp2_with (first
            | (go_at_call 45; refine (combVar_c _ _).mono ?_; rintro e w' ⟨rfl, rfl⟩)
            | (at_builtin; refine wp_app1 (by rfl) _ _ 60 24 (.slice none 0 0) 24 (by rfl) Try.underlying60 info_sComb rfl w.heap.size G j cc _ (by rfl) (by exact (hG.out.1.alloc _).alloc _) (wo.heap.size + 1) (.slice (some ⟨wo.heap.size, 0, none⟩) 1 1) (by rfl) (by have := new_cell (wo.alloc (.cells #[.int .i64 4, .int .i64 (mm + (j : Int))] 50)) #[.slice (some ⟨wo.heap.size, 0, none⟩) 1 1] 24 0; rw [World.size_alloc] at this; exact this) rfl (by omega) (by omega) (by simp; omega) ?_; intro g' cap w7 own7 hb7 hk7 hg7 hz7))
          have P7 := Lib.hid (hG.out.push rfl own7 hk7)
          have E7 := Lib.hid ((B4.out.alloc (by simp; omega) _).trans hb7)
          have HP7 := Lib.hid (show (ps ++ [(wo.heap.size, mm + (j : Int))]).map (·.2) = upV mm (j + 1) by rw [List.map_append, hps.out, upV_succ]; rfl)
          clear own7 hb7 hk7 hg7 hz7 v1
          go_wp2_with fail
          go_roundw
          case rel => exact ⟨j + 1, cap, some ⟨g', 0, none⟩, _, by omega, by go_num, rfl, P7.out, HP7.out, E7.out⟩
          case measure => simp [intOf]; omega
        · obtain rfl : j = kn := by omega
          have HAx := Lib.hid (HA.out.below HBw.out)
          have hpl : (argIts ps).length = j := hG.out.rdV.len
          have hpl' : ps.length = j := by rw [← hpl]; simp [argIts]
          have HFA := Lib.hid (show (List.replicate j ((0 : Int), (0 : Int))).flatMap enc2 ++ a.flatMap enc2 ++ (argIts ps).flatMap ItV.vs = (appV a (upV mm j)).flatMap enc2 by
            rw [argIts_vs, hps.out, appV, upV_len, List.flatMap_append, List.flatMap_append])
          have HFB := Lib.hid (show (List.replicate j ((0 : Int), (0 : Int))).flatMap enc2 ++ b.flatMap enc2 ++ (argIts ps).flatMap ItV.vs = (appV b (upV mm j)).flatMap enc2 by
            rw [argIts_vs, hps.out, appV, upV_len, List.flatMap_append, List.flatMap_append])
          have HSU := Lib.hid (show sumV (argIts ps) = j by rw [argIts_sum, hpl'])
          clear hpl hpl'
          go_wp2_with fail
          refine (applyComb_c A n cp a G j cc (j + n + j) (argIts ps) _ HAx.out hG.out.rdV (by omega) (by omega) (by rw [HSU.out]; omega) (by rw [HSU.out])).mono ?_
          rw [HFA.out]
          rintro e w6 ⟨A6, c6, rfl, hw6, hc6, hb6⟩
          have W6 := Lib.hid (show Rd2 w6 A6 (j + n + j) (appV a (upV mm j)) from hw6.rd); have E6 := Lib.hid (below_chain HBw.out hwz hb6)
          have G6 := Lib.hid (hG.out.below hb6)
          clear hw6 hb6 HAx hG
          go_wp2_with fail
          refine (normalComb_c _ _ c6 _ bn Y1 _ W6.out (by omega) HIB.out HY1.out).mono ?_
          rintro e w7 ⟨A7, N7, c7, rfl, hr7, hN7, hb7⟩
          have E7 := Lib.hid (below_chain E6.out E6.out.size hb7); have R7 := Lib.hid hr7; have G7 := Lib.hid (G6.out.below hb7)
          have HB7 := Lib.hid (HB.out.below E7.out)
          clear hr7 hb7 W6 G6
          go_wp2_with fail
          refine (applyComb_c B m dp b G j cc (j + m + j) (argIts ps) _ HB7.out G7.out.rdV (by omega) (by omega) (by rw [HSU.out]; omega) (by rw [HSU.out])).mono ?_
          rw [HFB.out]
          rintro e w8 ⟨A8, c8, rfl, hw8, hc8, hb8⟩
          have W8 := Lib.hid (show Rd2 w8 A8 (j + m + j) (appV b (upV mm j)) from hw8.rd); have E8 := Lib.hid (below_chain E7.out E7.out.size hb8)
          have R8 := Lib.hid (R7.out.below hb8)
          clear hw8 hb8 HB7 G7 R7
          go_wp2_with fail
          refine (normalComb_c _ _ c8 _ bn Y2 _ W8.out (by omega) HIB.out HY2.out).mono ?_
          rintro e w9 ⟨A9, N9, c9, rfl, hr9, hN9, hb9⟩
          have E9 := Lib.hid (below_chain E8.out E8.out.size hb9); have R9 := Lib.hid hr9; have R89 := Lib.hid (R8.out.below hb9)
          clear hr9 hb9 W8 R8 HY1 HY2
          rcases N1.out with ⟨rfl, rfl⟩ | ⟨x, s, rfl, rfl⟩
          · have HG' := Lib.hid (show (false, (5 : Int)) = R from HR.out)
            go_wp2_with fail
            go_ret2
            rw [← HG'.out]
            exact ⟨rfl, E9.out⟩
          · rcases N2.out with ⟨rfl, rfl⟩ | ⟨y, s', rfl, rfl⟩
            · have HG' := Lib.hid (show (false, (5 : Int)) = R from HR.out)
              go_wp2_with fail
              go_ret2
              rw [← HG'.out]
              exact ⟨rfl, E9.out⟩
            · obtain ⟨q, hq⟩ : ∃ q, decide (x = y) = q := ⟨_, rfl⟩
              have HQ := Lib.hid hq
              have HG' := Lib.hid (show (q, (0 : Int)) = R by rw [← HR.out, agX, hq])
              clear hq
              go_wp2_with fail
              refine (equalComb_c _ _ _ _ _ _ x y q _ R89.out R9.out (by omega) HQ.out).mono ?_
              rintro e w10 ⟨rfl, i, rfl⟩
              go_wp2_with fail
              go_ret2
              rw [← HG'.out]
              exact ⟨rfl, below_drewN E9.out _⟩
theorem sAgreeComb_c (A : Option Addr) (n c : Nat) (xs : List (Int × Int)) (A' : Option Addr) (n' c' : Nat) (ys : List (Int × Int)) (k bud : Int) (w : World) (h : Rd2 w A n xs) (h' : Rd2 w A' n' ys) (hn : n ≤ 1000000000) (hn' : n' ≤ 1000000000) :
    Calls Try.prog 16 #[.slice A n c, .slice A' n' c', .int .i64 k, .int .i64 bud] w fun e w' => e = .returned (.tuple #[.bool (agR xs ys k bud).1, .int .i64 (agR xs ys k bud).2]) ∧ Below w.heap.size w w' :=
  sAgreeComb0_c A n c xs A' n' c' ys k bud w h h' hn hn'
theorem iAgreeComb_c (A : Option Addr) (n c : Nat) (xs : List (Int × Int)) (A' : Option Addr) (n' c' : Nat) (ys : List (Int × Int)) (k bud : Int) (w : World) (h : Rd2 w A n xs) (h' : Rd2 w A' n' ys) (hn : n ≤ 1000000000) (hn' : n' ≤ 1000000000) :
    Calls Try.prog 17 #[.slice A n c, .slice A' n' c', .int .i64 k, .int .i64 bud] w fun e w' => e = .returned (.tuple #[.bool (agR xs ys k bud).1, .int .i64 (agR xs ys k bud).2]) ∧ Below w.heap.size w w' :=
  iAgreeComb0_c A n c xs A' n' c' ys k bud w h h' hn hn'
end Go.Proofs.Ytfgnhdmiglobhaa
