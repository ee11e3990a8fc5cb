/-
  Contracts of chapter 18: the number of a combinator term, the reference's.
-/
import Derived.Test.YtfgnhdmiglobhaaC18b
namespace Go.Proofs.Ytfgnhdmiglobhaa
open Go.RowKit

theorem three_blks (w : World) (a b c : Array Value) (ta tb tc : TypeId) : Blk (((w.alloc (.cells a ta)).alloc (.cells b tb)).alloc (.cells c tc)) w.heap.size ta a ∧ Blk (((w.alloc (.cells a ta)).alloc (.cells b tb)).alloc (.cells c tc)) (w.heap.size + 1) tb b ∧ Blk (((w.alloc (.cells a ta)).alloc (.cells b tb)).alloc (.cells c tc)) (w.heap.size + 1 + 1) tc c := by
  refine ⟨((Blk.new w _ _).alloc _).alloc _, ?_, ?_⟩
  · have := (Blk.new (w.alloc (.cells a ta)) tb b).alloc (.cells c tc)
    rw [World.size_alloc] at this; exact this
  · have := Blk.new ((w.alloc (.cells a ta)).alloc (.cells b tb)) tc c
    rw [World.size_alloc, World.size_alloc] at this; exact this
def itV1 (g : Nat) (v : Int) : ItV := itC (some ⟨g, 0, none⟩) 1 1 [(4, v)]
theorem itV1_ok {w : World} {g : Nat} {v : Int} {t : TypeId} (h : Blk w g t #[.int .i64 4, .int .i64 v]) : Rd w (itV1 g v).A ((itV1 g v).n * 2) (itV1 g v).vs ∧ ∀ u ∈ (itV1 g v).vs, u.oneCell' = true := itC_ok (h.rd rfl (by simp))
set_option maxHeartbeats 2000000 in
set_option maxRecDepth 100000 in
theorem l18Number_c (A : Option Addr) (n cp : Nat) (c : List (Int × Int)) (b : Nat) (R : Int × Int × Int) (w : World) (h : Rd2 w A n c) (hv : validC c = true) (hb : b ≤ 100000) (hR : nuN c b = R) :
    Calls Try.prog 34 #[.slice A n cp, .int .i64 b] w fun e w' => e = .returned (.tuple #[.int .i64 R.1, .int .i64 R.2.1, .int .i64 R.2.2]) ∧ Below w.heap.size w w' := by
  obtain ⟨hv1, hv2, hv3⟩ := validC_end hv
  have hl := h.len
  rw [hl] at hv2 hv3
  have H := Lib.hid h; have HR := Lib.hid hR; have HL := Lib.hid hl; have HV := Lib.hid hv
  clear h hR hl hv hv1
  have hTl : (appV c [0, 1]).length = n + 4 := by rw [appV_len, HL.out]; rfl
  go_enter Try.func34, Try.ntmps34
  obtain ⟨X, hX⟩ : ∃ X, runC b (appV c [0, 1]) 0 = X := ⟨_, rfl⟩
  have HX := Lib.hid hX
  clear hX
  go_wp2_with (go_at_call 40; refine (l18Name_c _ _).mono ?_; rintro e w1 ⟨rfl, rfl⟩)
  have BS := three_blks w #[.int .i64 4, .int .i64 0] #[.int .i64 4, .int .i64 1] #[.slice (some ⟨w.heap.size, 0, none⟩) 1 1, .slice (some ⟨w.heap.size + 1, 0, none⟩) 1 1] 50 50 24
  refine (l18Apply_c A n cp c _ 2 2 (n + 4) [itV1 w.heap.size 0, itV1 (w.heap.size + 1) 1] _ (((H.out.alloc _).alloc _).alloc _) (rdVC BS.2.2 (by simp [hdV, itV1, itC]) rfl (fun i hi => by
    simp only [List.mem_cons, List.not_mem_nil, or_false] at hi
    rcases hi with rfl | rfl
    · exact itV1_ok BS.1
    · exact itV1_ok BS.2.1)) (by omega) (by omega) (by simp [sumV, itV1, itC]) (by simp [sumV, itV1, itC]; omega)).mono ?_
  rintro e w1 ⟨A1, c1, rfl, hw1, hc1, hb1⟩
  have B1 := Lib.hid (up3 hb1)
  have W1 := Lib.hid (show Rd2 w1 A1 (n + 4) (appV c [0, 1]) by
    have := hw1.rd
    simpa [Rd2, appV, varT, itV1, itC, List.flatMap_append, List.append_assoc] using this)
  clear hw1 hb1 BS
  by_cases h4 : n + 4 ≤ 400
  case neg =>
    have HG := Lib.hid (show (0, 0, 5) = R by rw [← HR.out, nuN, if_neg (by rw [hTl]; exact h4)])
    have g1 : decide ((400 : Int) < ((n : Int) + 4)) = true := by rw [decide_eq_true_eq]; omega
    go_wp2_with fail
    go_ret3
    rw [← HG.out]
    exact ⟨rfl, B1.out⟩
  have HVT := Lib.hid (show validC (appV c [0, 1]) = true by rw [validC_appV HV.out [0, 1] (by decide), decide_eq_true_eq, hTl]; exact h4)
  have g1 : decide ((400 : Int) < ((n : Int) + 4)) = false := by rw [decide_eq_false_iff_not]; omega
  have HG := Lib.hid (show nuX X = R by rw [← HR.out, nuN, if_pos (by rw [hTl]; exact h4), HX.out])
  clear hTl
  go_wp2_with fail
  refine (l12CombRun_c _ _ c1 _ b X _ W1.out HVT.out hb HX.out).mono ?_
  intro e w2 h2
  have HH := Lib.hid h2
  clear h2
  cases X with
  | none =>
    obtain ⟨he, hb2⟩ := HH.out
    subst he
    have HG' := Lib.hid (show (0, 0, 5) = R from HG.out)
    have B2 := Lib.hid (below_chain B1.out B1.out.size hb2)
    clear hb2
    go_wp2_with fail
    go_ret3
    rw [← HG'.out]
    exact ⟨rfl, B2.out⟩
  | some x =>
    obtain ⟨o, s, q⟩ := x
    obtain ⟨A2, N2, c2, he, hw2, hl2, hc2, hb2⟩ := HH.out
    subst he
    have W2 := Lib.hid (show Rd2 w2 A2 N2 o from hw2.rd); have B2 := Lib.hid (below_chain B1.out B1.out.size hb2)
    have hv2' := validC_end (runC_valid HVT.out HX.out).1
    rw [hl2] at hv2'
    clear hw2 hb2 HH
    cases q
    · have HG' := Lib.hid (show (0, 0, 5) = R from HG.out)
      go_wp2_with fail
      go_ret3
      rw [← HG'.out]
      exact ⟨rfl, B2.out⟩
    · have HG' := Lib.hid (show (if cntR o = true then ((((o.length - 1) / 2 : Nat) : Int), (s : Int), (0 : Int)) else ((0 : Int), (0 : Int), (3 : Int))) = R from HG.out)
      obtain ⟨ad2, rfl, _, _⟩ := W2.out.2 (by omega)
      by_cases hq : cntR o = true
      · have HC := Lib.hid (show cntI o = (((o.length - 1) / 2 : Nat) : Int) by rw [cntI, if_pos hq])
        have HF := Lib.hid (show ((((o.length - 1) / 2 : Nat) : Int), (s : Int), (0 : Int)) = R by rw [← HG'.out, if_pos hq])
        obtain ⟨z, hz⟩ : ∃ z, (o.length - 1) / 2 = z := ⟨_, rfl⟩
        rw [hz] at HC HF
        have g2 : decide ((z : Int) < 0) = false := decide_eq_false (by omega)
        clear hz
        go_wp2_with (go_at_call 65; refine (l18Count_c _ _ _ o _ _ W2.out (by omega) HC.out).mono ?_; rintro e w3 ⟨rfl, hb3⟩)
        go_ret3
        rw [← HF.out]
        exact ⟨rfl, below_chain B2.out B2.out.size hb3⟩
      · have HC := Lib.hid (show cntI o = -1 by rw [cntI, if_neg hq])
        have HF := Lib.hid (show ((0 : Int), (0 : Int), (3 : Int)) = R by rw [← HG'.out, if_neg hq])
        go_wp2_with (go_at_call 65; refine (l18Count_c _ _ _ o _ _ W2.out (by omega) HC.out).mono ?_; rintro e w3 ⟨rfl, hb3⟩)
        go_ret3
        rw [← HF.out]
        exact ⟨rfl, below_chain B2.out B2.out.size hb3⟩
set_option maxHeartbeats 1000000 in
theorem sNumeralOfComb_c (A : Option Addr) (n cp : Nat) (c : List (Int × Int)) (b : Int) (w : World) (h : Rd2 w A n c) (hn : n ≤ 1000000000) :
    Calls Try.prog 14 #[.slice A n cp, .int .i64 b] w fun e w' => e = .returned (.tuple #[.int .i64 (nuR c b).1, .int .i64 (nuR c b).2.1, .int .i64 (nuR c b).2.2]) ∧ Below w.heap.size w w' := by
  obtain ⟨R, hR⟩ : ∃ R, nuR c b = R := ⟨_, rfl⟩
  rw [hR]
  have H := Lib.hid h
  cases hv : validC c
  · have HR := Lib.hid (show (0, 0, 1) = R by rw [← hR, nuR, if_pos hv])
    have HV := Lib.hid hv; clear hv hR h
    go_enter Try.func14, Try.ntmps14
    go_wp2_with (go_at_call 25; refine (l12Comb_c _ _ _ c false _ H.out hn HV.out).mono ?_; rintro e w' ⟨rfl, hb⟩)
    go_ret3
    rw [← HR.out]
    exact ⟨rfl, hb⟩
  cases hb : inB b 1 20000
  · have HR := Lib.hid (show (0, 0, 2) = R by rw [← hR, nuR, if_neg (by rw [hv]; simp), if_pos hb])
    have HV := Lib.hid hv; clear hv hR h
    go_enter Try.func14, Try.ntmps14
    go_wp2_with (first | (go_at_call 25; refine (l12Comb_c _ _ _ c true _ H.out hn HV.out).mono ?_; rintro e w' ⟨rfl, hb'⟩) | (go_at_call 26; refine (l05BudgetC_b _ _ (by assumption) _).mono ?_; rintro e w' ⟨rfl, rfl⟩))
    go_ret3
    rw [← HR.out]
    exact ⟨rfl, hb'⟩
  have hb1 := inB_t hb
  obtain ⟨m, rfl⟩ : ∃ m : Nat, b = m := ⟨b.toNat, by omega⟩
  have hl := (validC_end hv).2.2
  rw [h.len] at hl
  obtain ⟨NN, hNN⟩ : ∃ NN, namesC c = NN := ⟨_, rfl⟩
  have HN := Lib.hid hNN
  cases hh : hasV c
  · have HR := Lib.hid (show nuN c m = R by rw [← hR, nuR, if_neg (by rw [hv]; simp), if_neg (by rw [hb]; simp), if_neg (by rw [hh]; simp), show ((m : Int)).toNat = m by omega])
    have hNl : NN = [] := by rw [← hNN]; exact (namesC_nil c).2 hh
    subst hNl
    have HV := Lib.hid hv; clear hv hR h hh hNN
    go_enter Try.func14, Try.ntmps14
    go_wp2_with (first
      | (go_at_call 25; refine (l12Comb_c _ _ _ c true _ H.out hn HV.out).mono ?_; rintro e w1 ⟨rfl, hb1'⟩; have R1 := Lib.hid (H.out.below hb1'); have E1 := Lib.hid hb1'; clear hb1')
      | (go_at_call 26; refine (l05BudgetC_b _ _ (by assumption) _).mono ?_; rintro e w' ⟨rfl, rfl⟩)
      | (go_at_call 33; refine (l18Names_c _ _ _ c [] _ R1.out (by omega) HN.out).mono ?_; rintro e w2 ⟨A2, c2, rfl, _, hb2⟩; have R2 := Lib.hid (R1.out.below hb2); have E2 := Lib.hid (below_chain E1.out E1.out.size hb2); clear hb2)
      | (go_at_call 34; refine (l18Number_c _ _ _ c m R _ R2.out HV.out (by omega) HR.out).mono ?_; rintro e w3 ⟨rfl, hb3⟩))
    go_ret3
    exact ⟨rfl, below_chain E2.out E2.out.size hb3⟩
  · have HR := Lib.hid (show (0, 0, 2) = R by rw [← hR, nuR, if_neg (by rw [hv]; simp), if_neg (by rw [hb]; simp), if_pos hh])
    have hNl : 1 ≤ NN.length := by
      rcases Nat.eq_zero_or_pos NN.length with e | e
      · have := (namesC_nil c).1 (by rw [hNN]; exact List.length_eq_zero_iff.1 e)
        rw [hh] at this; cases this
      · exact e
    obtain ⟨nl, hnl⟩ : ∃ nl, NN.length = nl := ⟨_, rfl⟩
    rw [hnl] at hNl
    have HNL := Lib.hid hnl
    have g1 : decide ((0 : Int) < (nl : Int)) = true := by rw [decide_eq_true_eq]; omega
    have HV := Lib.hid hv; clear hv hR h hh hNN hnl
    go_enter Try.func14, Try.ntmps14
    go_wp2_with (first
      | (go_at_call 25; refine (l12Comb_c _ _ _ c true _ H.out hn HV.out).mono ?_; rintro e w1 ⟨rfl, hb1'⟩; have R1 := Lib.hid (H.out.below hb1'); have E1 := Lib.hid hb1'; clear hb1')
      | (go_at_call 26; refine (l05BudgetC_b _ _ (by assumption) _).mono ?_; rintro e w' ⟨rfl, rfl⟩)
      | (go_at_call 33; refine (l18Names_c _ _ _ c NN _ R1.out (by omega) HN.out).mono ?_; rintro e w2 ⟨A2, c2, he2, _, hb2⟩; rw [HNL.out] at he2; subst he2; have E2 := Lib.hid (below_chain E1.out E1.out.size hb2); clear hb2))
    go_ret3
    rw [← HR.out]
    exact ⟨rfl, E2.out⟩
end Go.Proofs.Ytfgnhdmiglobhaa
