/-
  Contracts of chapter 23: places, packed expressions, of the program.
-/
import Derived.Test.YtecpbgmcednpoaaPOv
import Derived.Test.YtecpbgmcednpoaaRepK
import Derived.Test.YtecpbgmcednpoaaMixG
import Derived.Test.YtecpbgmcednpoaaMixB
import Derived.Test.YtecpbgmcednpoaaCWh
namespace Go.Proofs.Ytecpbgmcednpoaa
open Go.RowKit

set_option maxHeartbeats 4000000 in
set_option maxRecDepth 100000 in
theorem placeOf_c (k n : Nat) (w : World) (hk : k ≤ 10) (hn : n ≤ 10) : Calls Try.prog 66 #[.int .i64 k, .int .i64 n] w (ExOut (placeP k n) w) := by
  obtain ⟨w0, hw0⟩ : ∃ w0, w.alloc (.cells #[.int .i64 4, .int .i64 0] 49) = w0 := ⟨_, rfl⟩
  have B0 := Lib.hid (show Below w.heap.size w w0 by rw [← hw0]; exact below_size.alloc (Nat.le_refl _) _)
  have x0 : w0.cell? ⟨w.heap.size, 0, none⟩ = some (.int .i64 4) := by rw [← hw0]; exact new_cell _ _ _ 0
  have x1 : w0.cell? ⟨w.heap.size, 1, none⟩ = some (.int .i64 0) := by rw [← hw0]; exact new_cell _ _ _ 1
  have hz0 := B0.out.size
  go_enter Try.func66, Try.ntmps66
  go_wp2_with fail
  refine (repeatExprM_c ⟨w.heap.size, 0, none⟩ 1 (4, 0) k w0 x0 x1 (by omega)).mono ?_
  rintro e w1 ⟨g1, rfl, ho1, hb1⟩
  have O1 := Lib.hid (ho1.widen hz0); have B1 := Lib.hid (below_chain B0.out hz0 hb1)
  have hz1 := B1.out.size
  clear ho1 hb1 x0 x1
  by_cases hkn : k + 1 < n
  · have v1 : IntKind.i64.wrap ((n : Int) - 1) = (n : Int) - 1 := IntWalk.i64_in _ (by omega)
    have gk : decide ((k : Int) < (n : Int) - 1) = true := by rw [decide_eq_true_eq]; omega
    go_wp2_with (first
      | ((at_builtin; refine wp_appExpr (by rfl) _ _ (by rfl) w.heap.size _ _ _ _ (by rfl) (by exact O1.out.alloc _) _ _ _ ([(1, 0)]) (by rfl) (by exact rd_newE ([(1, 0)]) _ rfl rfl) (by omega) (by first | omega | (simp; omega) | (simp; done)) ?_; intro A3 c3 w3 own3 hb3 hk3 hg3 hz3); have R3 := Lib.hid (show Rd2 w3 A3 (k + 1) (List.replicate k ((4 : Int), (0 : Int)) ++ [(1, 0)]) from by (rw [← List.flatMap_append] at own3); exact own3.wrK.rd); have B3 := Lib.hid ((B1.out.alloc hz1 _).trans hb3); have hz3 := B3.out.size)
      | (at_builtin; refine wp_appExpr (by rfl) _ _ (by rfl) w3.heap.size _ 1 1 ([((3 : Int), (0 : Int))].flatMap enc2) (by rfl) (by exact Own.fullK (Nat.le_refl _) rfl rfl (by omega)) A3 (k + 1) c3 (List.replicate k ((4 : Int), (0 : Int)) ++ [(1, 0)]) (by rfl) (by exact R3.out.alloc _) (by omega) (by simp) ?_; intro A4 c4 w4 own4 hb4 hk4 hg4 hz4))
    rw [← List.flatMap_append] at own4
    have hcap := own4.cap
    have O4 := Lib.hid own4
    have B4 := Lib.hid (below_chain B3.out hz3 ((below_size.alloc (Nat.le_refl _) (.cells #[i64 3, i64 0] 49)).trans hb4))
    go_ret
    refine ⟨A4, 1 + (k + 1), c4, rfl, ?_, hcap, B4.out⟩
    rw [placeP, if_pos hkn]
    exact O4.out.wrK.wider hz3 (Nat.le_refl _)
  · have v1 : IntKind.i64.wrap ((n : Int) - 1) = (n : Int) - 1 := IntWalk.i64_in _ (by omega)
    have gk : decide ((k : Int) < (n : Int) - 1) = false := by rw [decide_eq_false_iff_not]; omega
    go_wp2_with (at_builtin; refine wp_appExpr (by rfl) _ _ (by rfl) w.heap.size _ _ _ _ (by rfl) (by exact O1.out.alloc _) _ _ _ ([(1, 0)]) (by rfl) (by exact rd_newE ([(1, 0)]) _ rfl rfl) (by omega) (by first | omega | (simp; omega) | (simp; done)) ?_; intro A3 c3 w3 own3 hb3 hk3 hg3 hz3)
    rw [← List.flatMap_append] at own3
    have hcap := own3.cap
    have O3 := Lib.hid own3
    have B3 := Lib.hid ((B1.out.alloc hz1 _).trans hb3)
    go_ret
    refine ⟨A3, k + 1, c3, rfl, ?_, hcap, B3.out⟩
    rw [placeP, if_neg hkn, List.nil_append]
    exact O3.out.wrK
/-- an expression to be read; of the call's own if it was put together -/
def PkOut (F : List (Int × Int)) (m : Nat) (w : World) (e : Ending) (w' : World) : Prop := ∃ A n c, e = .returned (.slice A n c) ∧ Rd2 w' A n F ∧ n ≤ c ∧ (2 ≤ m → Wr w' w.heap.size w'.heap.size A (n * 2) (F.flatMap enc2)) ∧ Below w.heap.size w w'
theorem rdVE {w : World} {g : Nat} {t : TypeId} {vs : Array Value} {its : List ItV} {n : Nat} (hg : Blk w g t vs) (hv : vs.toList = its.map hdV) (hn : its.length = n) (h : ∀ i ∈ its, Rd w i.A (i.n * 2) i.vs ∧ ∀ u ∈ i.vs, u.oneCell' = true) : RdV w 2 (some ⟨g, 0, none⟩) n its := by
  have hs : vs.size = n := by rw [← Array.length_toList, hv, List.length_map, hn]
  exact ⟨hg.rd (by rw [hv]; exact List.take_of_length_le (by rw [List.length_map]; omega)) (by omega), fun t ht => (h t ht).1, fun t ht => (h t ht).2⟩
theorem RdV.tail1 {w : World} {k m : Nat} {ad : Addr} {t : ItV} {its : List ItV} (h : RdV w k (some ad) m (t :: its)) : RdV w k (some ⟨ad.block, ad.off + 1, none⟩) (m - 1) its := by
  have hl := h.len
  simp at hl
  refine ⟨⟨by rw [List.length_map]; omega, fun hp => ?_⟩, fun u hu => h.each u (by simp [hu]), fun u hu => h.one u (by simp [hu])⟩
  obtain ⟨ad', e', hlt, hcs⟩ := h.head.2 (by omega)
  injection e' with e'; subst e'
  refine ⟨_, rfl, hlt, fun j u hj => ?_⟩
  have := hcs (j + 1) u (by simpa using hj)
  rw [← this, show (⟨ad.block, ad.off + 1, none⟩ : Addr) = ad.add 1 from by unfold Addr.add; simp, add_add, Nat.add_comm 1 j]
theorem RdV.first {w : World} {k m : Nat} {A : Option Addr} {t : ItV} {its : List ItV} (h : RdV w k A m (t :: its)) : ∃ ad, A = some ad ∧ w.cell? ad = some (.slice t.A t.n t.c) := by
  have hl := h.len
  simp at hl
  obtain ⟨ad, t', e, ht, hc, _⟩ := h.at_ (j := 0) (by omega)
  simp at ht; subst ht
  rw [add_zero'] at hc
  exact ⟨ad, e, hc⟩
set_option maxHeartbeats 4000000 in
set_option maxRecDepth 100000 in
theorem packed_c (N : Nat) : ∀ (A : Option Addr) (m c : Nat) (its : List ItV) (ls : List (List (Int × Int))) (w : World), RdV w 2 A m its → its.map ItV.vs = ls.map (·.flatMap enc2) → 1 ≤ m → m ≤ N → m ≤ 10 → m ≤ c → (∀ t ∈ its, t.n ≤ 1000) → (∀ t ∈ its, t.n ≤ t.c) → Calls Try.prog 68 #[.slice A m c] w (PkOut (packedP ls) m w) := by
  induction N with
  | zero => intro A m c its ls w _ _ h1 h2; omega
  | succ N IH =>
    intro A m c its ls w h hv hm1 hmN hm10 hmc hn hc
    have hl := h.len
    obtain ⟨t, its', rfl⟩ : ∃ t its', its = t :: its' := by
      cases its with
      | nil => simp at hl; omega
      | cons t l => exact ⟨t, l, rfl⟩
    obtain ⟨x, ls', rfl⟩ : ∃ x ls', ls = x :: ls' := by
      cases ls with
      | nil => simp at hv
      | cons t l => exact ⟨t, l, rfl⟩
    simp only [List.map_cons, List.cons.injEq] at hv
    obtain ⟨hv1, hv2⟩ := hv
    obtain ⟨ad, rfl, hc0⟩ := h.first
    have hx := h.each t (by simp)
    have htn := hn t (by simp)
    have htc := hc t (by simp)
    simp only [List.length_cons] at hl
    have HT := Lib.hid h.tail1
    have HN := Lib.hid (show ∀ t ∈ its', t.n ≤ 1000 from fun u hu => hn u (by simp [hu]))
    have HCC := Lib.hid (show ∀ t ∈ its', t.n ≤ t.c from fun u hu => hc u (by simp [hu]))
    obtain ⟨tA, tn, tc, tv⟩ := t
    simp only at hv1 hc0 hx htn htc
    subst hv1
    have RX := Lib.hid (show Rd2 w tA tn x from hx)
    have HV2 := Lib.hid hv2; have HIH := Lib.hid IH; have HL := Lib.hid hl
    clear hv2 hx h hn hc IH hl
    by_cases h1 : m = 1
    · subst h1
      have hls : ls' = [] := by have h2 := congrArg List.length HV2.out; have h3 := HL.out; simp at h2; exact List.length_eq_zero_iff.1 (by omega)
      subst hls
      go_enter Try.func68, Try.ntmps68
      go_wp2_with fail
      go_ret
      exact ⟨tA, tn, tc, rfl, RX.out, htc, fun h => by omega, below_size⟩
    · have g1 : ((m : Int) == 1) = false := by simp; omega
      obtain ⟨y, ls'', rfl⟩ : ∃ y ls'', ls' = y :: ls'' := by
        cases ls' with
        | nil => have h2 := congrArg List.length HV2.out; have h3 := HL.out; simp at h2; subst h2; simp at h3; omega
        | cons y l => exact ⟨y, l, rfl⟩
      have h0 : 0 < m := by omega
      have hm2 : 1 < m := by omega
      have hc2 : 1 < c := by omega
      obtain ⟨X, hX⟩ : ∃ X, packedP (y :: ls'') = X := ⟨_, rfl⟩
      have HX := Lib.hid hX
      have HS := Lib.hid (show packedP (x :: y :: ls'') = [((2 : Int), (0 : Int))] ++ (x ++ X) by rw [packedP_two, hX]; rfl)
      have hXl : X.length ≤ 11000 := by
        rw [← hX]
        refine Nat.le_trans (packedP_len _) ?_
        have h2 := congrArg List.length HV2.out
        have h3 := HL.out
        have h4 := sumL_le (ls := y :: ls'') (b := 1000) (fun z hz => by
          have : (z.flatMap enc2) ∈ its'.map ItV.vs := by rw [HV2.out]; exact List.mem_map_of_mem hz
          obtain ⟨u, hu, hue⟩ := List.mem_map.1 this
          have h5 := HT.out.each u hu
          have h6 : u.vs.length = u.n * 2 := h5.1
          rw [hue, flatX_len enc2 2 enc2_len] at h6
          have := HN.out u hu
          omega)
        simp only [List.length_map] at h2
        have h5 : (y :: ls'').length ≤ 9 := by omega
        have := Nat.mul_le_mul_right 1000 h5
        omega
      clear hX
      go_enter Try.func68, Try.ntmps68
      go_wp2_with fail
      have z0 := Ext.cell hc0
      refine Mix.wp_region_mixG 1 7 [0, 1, 0, 0, 3, 0, 0, 1, 1, 1, 0] (fun w' => ∃ x : Ext w, w' = x.w) (by kernel_rfl) (by kernel_rfl) (InExt.drew _) _ (by rfl) ?_
      simp only [List.take_succ_cons, List.take_zero, List.drop_succ_cons, List.drop_zero, List.cons_append, List.nil_append, Nat.reduceSub]
      refine Mix.wpF_0 ?_
      refine Mix.wpMix_build (by rfl) _ _ rfl (.agg #[.int .i64 2, .int .i64 0]) (fun w => by simp [go_sem]) ?_
      refine Mix.wpMix_nil ?_
      simp only [Act.put, List.setIfInBounds_toArray, List.set_cons_succ, List.set_cons_zero]
      refine Mix.wpF_0 ?_
      (refine Mix.wpMix_pure (by rfl) ?_; go_big_quiet_step (fail); refine wpQuiet_nil ?_)
      refine Mix.wpMix_nil ?_
      refine Mix.wpF_0 ?_
      (refine Mix.wpMix_pure (by rfl) ?_; go_big_quiet_step (fail); refine wpQuiet_nil ?_)
      refine Mix.wpMix_nil ?_
      refine Mix.wpF_3 ?_
      (refine Mix.wpMix_read (by rfl) ?_; go_big_quiet_step (fail); refine wpQuiet_nil ?_)
      refine Mix.wpMix_nil ?_
      refine Mix.wpF_0 ?_
      (refine Mix.wpMix_pure (by rfl) ?_; go_big_quiet_step (fail); refine wpQuiet_nil ?_)
      refine Mix.wpMix_nil ?_
      refine Mix.wpF_0 ?_
      (refine Mix.wpMix_pure (by rfl) ?_; go_big_quiet_step (fail); refine wpQuiet_nil ?_)
      refine Mix.wpMix_nil ?_
      refine Mix.wpF_1 ?_ ?_
      · simp only [List.nil_append]
        have e0 : Below w.heap.size w (w.alloc (.cells #[i64 2, i64 0] 49)).drew := below_drew (below_size.alloc (Nat.le_refl _) _)
        have r0 : Rd2 (w.alloc (.cells #[i64 2, i64 0] 49)).drew (some ⟨w.heap.size, 0, none⟩) 1 [(2, 0)] := rd_newE [(2, 0)] _ rfl rfl
        refine Mix.wpMix_chg (by rfl) (fun K hK => ?_)
        go_wp2_with fail
        refine hK _ _ ⟨⟨_, e0⟩, rfl⟩ ?_
        clear hK K
        refine Mix.wpMix_chg (by rfl) (fun K hK => ?_)
        go_wp2_with fail
        refine (HIH.out (some ⟨ad.block, ad.off + 1, none⟩) (m - 1) (c - 1) its' (y :: ls'') _ (by exact HT.out.below e0) HV2.out (by omega) (by omega) (by omega) (by omega) HN.out HCC.out).mono ?_
        rw [HX.out]
        rintro e w8 ⟨A8, m8, c8, rfl, hr8, hc8, _, hb8⟩
        have e8 := below_chain e0 e0.size hb8
        have R0 := Lib.hid (r0.below hb8)
        have hm8 := hr8.len
        have R8 := Lib.hid hr8
        have E8 := Lib.hid e8
        have hz8 := e8.size
        clear hr8 hb8 r0 e0
        go_wp2_with fail
        refine hK _ _ ⟨⟨_, E8.out⟩, rfl⟩ ?_
        clear hK K
        have HRV := Lib.hid (show RdV (w8.alloc (.cells #[.slice (some ⟨w.heap.size, 0, none⟩) 1 1, .slice tA tn tc, .slice A8 m8 c8] 44)) 2 (some ⟨w8.heap.size, 0, none⟩) 3 [⟨some ⟨w.heap.size, 0, none⟩, 1, 1, [((2 : Int), (0 : Int))].flatMap enc2⟩, ⟨tA, tn, tc, x.flatMap enc2⟩, ⟨A8, m8, c8, X.flatMap enc2⟩] from
          rdVE (Blk.new _ _ _) rfl rfl (fun i hi => by
            simp only [List.mem_cons, List.not_mem_nil, or_false] at hi
            rcases hi with rfl | rfl | rfl
            · exact ⟨R0.out.alloc _, one_pairs _⟩
            · exact ⟨(RX.out.below (E8.out.alloc hz8 _)), one_pairs _⟩
            · exact ⟨R8.out.alloc _, one_pairs _⟩))
        have hsum : sumV [(⟨some ⟨w.heap.size, 0, none⟩, 1, 1, [((2 : Int), (0 : Int))].flatMap enc2⟩ : ItV), ⟨tA, tn, tc, x.flatMap enc2⟩, ⟨A8, m8, c8, X.flatMap enc2⟩] = 1 + (tn + m8) := by simp [sumV]
        have hfl : [(⟨some ⟨w.heap.size, 0, none⟩, 1, 1, [((2 : Int), (0 : Int))].flatMap enc2⟩ : ItV), ⟨tA, tn, tc, x.flatMap enc2⟩, ⟨A8, m8, c8, X.flatMap enc2⟩].flatMap ItV.vs = ([((2 : Int), (0 : Int))] ++ (x ++ X)).flatMap enc2 := by simp
        refine Mix.wpMix_chg (by rfl) (fun K hK => ?_)
        go_wp2_with fail
        refine hK _ _ ⟨⟨_, E8.out.alloc hz8 _⟩, rfl⟩ ?_
        clear hK K
        refine Mix.wpMix_chg (by rfl) (fun K hK => ?_)
        go_wp2_with fail
        refine (concatExpr_c (some ⟨w8.heap.size, 0, none⟩) 3 3 _ _ HRV.out (by omega) (by rw [hsum]; omega)).mono ?_
        rw [hsum, hfl]
        rintro e w10 ⟨A10, c10, rfl, hw10, hc10, hb10⟩
        have E10 := Lib.hid (below_chain (E8.out.alloc hz8 _) (by simp; omega) hb10)
        have W10 := Lib.hid hw10
        clear hw10 hb10
        go_wp2_with fail
        refine hK _ _ ⟨⟨_, E10.out⟩, rfl⟩ ?_
        clear hK K
        repeat (first | (refine Mix.wpMix_read (by rfl) ?_; go_big_quiet_step (fail); refine wpQuiet_nil ?_) | (refine Mix.wpMix_pure (by rfl) ?_; go_big_quiet_step (fail); refine wpQuiet_nil ?_))
        (refine Mix.wpMix_nil ?_; try simp only [Exit.then])
        go_wp2_with fail
        go_ret
        rw [HS.out]
        exact ⟨A10, _, c10, rfl, W10.out.rd, hc10, fun _ => W10.out.wider (by simp; omega) (Nat.le_refl _), E10.out⟩
      · skip
        refine Mix.wpMix_chg (by rfl) (fun K hK => ?_)
        go_wp2_with fail
        refine (HIH.out (some ⟨ad.block, ad.off + 1, none⟩) (m - 1) (c - 1) its' (y :: ls'') _ (by exact HT.out.below (below_drew below_size)) HV2.out (by omega) (by omega) (by omega) (by omega) HN.out HCC.out).mono ?_
        rw [HX.out]
        rintro e w9 ⟨A8, m8, c8, rfl, hr8, hc8, _, hb8⟩
        have e8 := below_of_drew hb8
        have hm8 := hr8.len
        have E9 := Lib.hid e8
        have hz9 := e8.size
        obtain ⟨w8, hw8⟩ : ∃ w8, w9.alloc (.cells #[i64 2, i64 0] 49) = w8 := ⟨_, rfl⟩
        have R0 := Lib.hid (show Rd2 w8 (some ⟨w9.heap.size, 0, none⟩) 1 [(2, 0)] by rw [← hw8]; exact rd_newE [(2, 0)] _ rfl rfl)
        have R8 := Lib.hid (show Rd2 w8 A8 m8 X by rw [← hw8]; exact hr8.alloc _)
        have E8 := Lib.hid (show Below w.heap.size w w8 by rw [← hw8]; exact e8.alloc hz9 _)
        have hz8 := E8.out.size
        clear hr8 hb8 e8
        go_wp2_with fail
        refine hK _ _ ⟨⟨_, E9.out⟩, rfl⟩ ?_
        clear hK K
        refine Mix.wpMix_nil ?_
        refine Mix.wpF_nil ?_
        refine Mix.wpMix_chg (by rfl) (fun K hK => ?_)
        go_wp2_with fail
        refine hK _ _ ⟨⟨_, by first | exact E8.out | (rw [hw8]; exact E8.out)⟩, rfl⟩ ?_
        clear hK K
        try rw [hw8]
        have HRV := Lib.hid (show RdV (w8.alloc (.cells #[.slice (some ⟨w9.heap.size, 0, none⟩) 1 1, .slice tA tn tc, .slice A8 m8 c8] 44)) 2 (some ⟨w8.heap.size, 0, none⟩) 3 [⟨some ⟨w9.heap.size, 0, none⟩, 1, 1, [((2 : Int), (0 : Int))].flatMap enc2⟩, ⟨tA, tn, tc, x.flatMap enc2⟩, ⟨A8, m8, c8, X.flatMap enc2⟩] from
          rdVE (Blk.new _ _ _) rfl rfl (fun i hi => by
            simp only [List.mem_cons, List.not_mem_nil, or_false] at hi
            rcases hi with rfl | rfl | rfl
            · exact ⟨R0.out.alloc _, one_pairs _⟩
            · exact ⟨(RX.out.below (E8.out.alloc hz8 _)), one_pairs _⟩
            · exact ⟨R8.out.alloc _, one_pairs _⟩))
        have hsum : sumV [(⟨some ⟨w9.heap.size, 0, none⟩, 1, 1, [((2 : Int), (0 : Int))].flatMap enc2⟩ : ItV), ⟨tA, tn, tc, x.flatMap enc2⟩, ⟨A8, m8, c8, X.flatMap enc2⟩] = 1 + (tn + m8) := by simp [sumV]
        have hfl : [(⟨some ⟨w9.heap.size, 0, none⟩, 1, 1, [((2 : Int), (0 : Int))].flatMap enc2⟩ : ItV), ⟨tA, tn, tc, x.flatMap enc2⟩, ⟨A8, m8, c8, X.flatMap enc2⟩].flatMap ItV.vs = ([((2 : Int), (0 : Int))] ++ (x ++ X)).flatMap enc2 := by simp
        refine Mix.wpMix_chg (by rfl) (fun K hK => ?_)
        go_wp2_with fail
        refine hK _ _ ⟨⟨_, E8.out.alloc hz8 _⟩, rfl⟩ ?_
        clear hK K
        refine Mix.wpMix_chg (by rfl) (fun K hK => ?_)
        go_wp2_with fail
        refine (concatExpr_c (some ⟨w8.heap.size, 0, none⟩) 3 3 _ _ HRV.out (by omega) (by rw [hsum]; omega)).mono ?_
        rw [hsum, hfl]
        rintro e w10 ⟨A10, c10, rfl, hw10, hc10, hb10⟩
        have E10 := Lib.hid (below_chain (E8.out.alloc hz8 _) (by simp; omega) hb10)
        have W10 := Lib.hid hw10
        clear hw10 hb10
        go_wp2_with fail
        refine hK _ _ ⟨⟨_, E10.out⟩, rfl⟩ ?_
        clear hK K
        repeat (first | (refine Mix.wpMix_read (by rfl) ?_; go_big_quiet_step (fail); refine wpQuiet_nil ?_) | (refine Mix.wpMix_pure (by rfl) ?_; go_big_quiet_step (fail); refine wpQuiet_nil ?_))
        (refine Mix.wpMix_nil ?_; try simp only [Exit.then])
        go_wp2_with fail
        go_ret
        rw [HS.out]
        exact ⟨A10, _, c10, rfl, W10.out.rd, hc10, fun _ => W10.out.wider (by simp; omega) (Nat.le_refl _), E10.out⟩

set_option maxHeartbeats 4000000 in
set_option maxRecDepth 100000 in
theorem placedExpr_c (A : Option Addr) (m c : Nat) (xs : List (Int × Int)) (n : Nat) (w : World) (h : Rd2 w A m xs) (hm : m ≤ 40) (hv : xs.all okE = true) (hn : n ≤ 10) : Calls Try.prog 70 #[.slice A m c, .int .i64 n] w (ExOut (movedP xs n) w) := by
  obtain ⟨S, hS⟩ : ∃ S, movedP xs n = S := ⟨_, rfl⟩
  rw [hS]
  have HS := Lib.hid hS; have HV := Lib.hid hv; have HL := Lib.hid h.len
  have H := Lib.hid h
  have B0 := Lib.hid (show Below w.heap.size w (w.alloc (.cells #[] 49)) from below_size.alloc (Nat.le_refl _) _)
  clear hS hv h
  go_enter Try.func70, Try.ntmps70
  go_wp2_with fail
  go_loopw [5, 11] (fun ov kv wr => ∃ (k mm cc : Nat) (O : Option Addr) (b : List (Int × Int)), k ≤ m ∧ mm ≤ 12 * k ∧ kv = .int .i64 k ∧ ov = .slice O mm cc ∧ Hid (Own wr w.heap.size 49 2 O mm cc (b.flatMap enc2)) ∧ Hid (b ++ movedP (xs.drop k) n = S) ∧ Below w.heap.size w wr) (fun _ kv _ => m - (intOf kv).toNat)
  case atStart => exact ⟨0, 0, 0, some ⟨w.heap.size, 0, none⟩, [], by omega, by omega, rfl, rfl, Own.litK (Nat.le_refl _), HS.out, B0.out⟩
  case round =>
    obtain ⟨k, mm, cc, O, b, hkm, hmk, rfl, rfl, hO, hr, hb⟩ := hrel
    have HB := Lib.hid hb
    have hzr := hb.size
    by_cases hlt : k < m
    · obtain ⟨ad, y, rfl, hab, hy, hc0, hc1⟩ := (H.out.below hb).at_ hlt
      have hoky := okE_bd (List.all_eq_true.1 HV.out _ (List.mem_of_getElem? hy))
      obtain ⟨t, v0⟩ := y
      simp only at hc0 hc1 hoky
      obtain ⟨v, rfl⟩ : ∃ v : Nat, v0 = v := ⟨v0.toNat, by omega⟩
      have HR := Lib.hid (show b ++ ((if t = 1 then placeP v n else [(t, (v : Int))]) ++ movedP (xs.drop (k + 1)) n) = S by rw [← hr.out, drop_at hy, movedP_cons]; simp)
      obtain ⟨w6, hw6⟩ : ∃ w6, wr.alloc (.cells #[.int .i64 t, .int .i64 v] 49) = w6 := ⟨_, rfl⟩
      have E6 := Lib.hid (show Below wr.heap.size wr w6 by rw [← hw6]; exact below_size.alloc (Nat.le_refl _) _)
      have x0 : w6.cell? ⟨wr.heap.size, 0, none⟩ = some (.int .i64 t) := by rw [← hw6]; exact new_cell _ _ _ 0
      have x1 : w6.cell? ⟨wr.heap.size, 1, none⟩ = some (.int .i64 v) := by rw [← hw6]; exact new_cell _ _ _ 1
      have O6 := Lib.hid (hO.out.keep E6.out)
      have HB6 := Lib.hid (below_chain HB.out hzr E6.out)
      have hz6 := HB6.out.size
      clear hb hy hr
      by_cases h1 : t = 1
      · subst h1
        have HG := Lib.hid (show (b ++ placeP v n) ++ movedP (xs.drop (k + 1)) n = S by rw [← HR.out, if_pos rfl, List.append_assoc])
        have hpl := placeP_len v n
        go_wp2_with (first
          | (go_at_call 66; refine (placeOf_c v n w6 (by omega) hn).mono ?_; rintro e w3 ⟨A3, m3, c3, rfl, hw3, hc3, hb3⟩; have hml := wr_len2 hw3; have R3 := Lib.hid (show Rd2 w3 A3 m3 (placeP v n) from hw3.rd); have E3 := Lib.hid (below_chain HB6.out hz6 hb3); have O3 := Lib.hid (O6.out.keep hb3); have hz3 := E3.out.size)
          | (at_builtin; refine wp_appExpr (by rfl) _ _ (by rfl) w.heap.size _ _ _ _ (by rfl) (by exact O3.out) _ _ _ (placeP v n) (by rfl) (by exact R3.out) (by omega) (by omega) ?_; intro A4 c4 w4 own4 hb4 hk4 hg4 hz4))
        rw [← List.flatMap_append] at own4
        have O4 := Lib.hid own4; have B4 := Lib.hid (E3.out.trans hb4)
        clear own4 hb4 hk4 hg4 hz4
        go_roundw
        case rel => exact ⟨k + 1, mm + m3, c4, A4, b ++ placeP v n, by omega, by omega, by go_num, rfl, O4.out, HG.out, B4.out⟩
        case measure => simp [intOf]; omega
      · have g1 : (t == 1) = false := by simpa using h1
        have HG := Lib.hid (show (b ++ [(t, (v : Int))]) ++ movedP (xs.drop (k + 1)) n = S by rw [← HR.out, if_neg h1, List.append_assoc])
        go_wp2_with (at_builtin; refine wp_appExpr (by rfl) _ _ (by rfl) w.heap.size _ _ _ _ (by rfl) (by exact O6.out.alloc _) _ _ _ ([(t, (v : Int))]) (by rfl) (by exact rd_newE ([(t, (v : Int))]) _ rfl rfl) (by omega) (by first | omega | (simp; omega) | (simp; done)) ?_; intro A4 c4 w4 own4 hb4 hk4 hg4 hz4)
        rw [← List.flatMap_append] at own4
        have O4 := Lib.hid own4; have B4 := Lib.hid ((HB6.out.alloc hz6 _).trans hb4)
        clear own4 hb4 hk4 hg4 hz4
        go_roundw
        case rel => exact ⟨k + 1, mm + 1, c4, A4, b ++ [(t, (v : Int))], by omega, by omega, by go_num, rfl, O4.out, HG.out, B4.out⟩
        case measure => simp [intOf]; omega
    · have HR := Lib.hid (show b = S by rw [← hr.out, List.drop_eq_nil_of_le (by rw [HL.out]; omega)]; simp [movedP])
      have hcap := hO.out.cap
      clear hb hr
      go_wp2_with fail
      go_ret
      rw [← HR.out]
      exact ⟨O, mm, cc, rfl, hO.out.wrK, hcap, HB.out⟩
set_option maxRecDepth 100000 in
theorem cloneEE_c (ad : Addr) (m c : Nat) (its : List ItV) (w : World) (h : Rd w (some ad) m (its.map hdV)) (h0 : 0 < m) (hm : m ≤ 1000) :
    Calls Try.prog 71 #[.slice (some ad) m c] w fun e w' => ∃ g cap, e = .returned (.slice (some ⟨g, 0, none⟩) m cap) ∧ Own w' w.heap.size 44 1 (some ⟨g, 0, none⟩) m cap (its.map hdV) ∧ Below w.heap.size w w' := by
  obtain ⟨hl, hc⟩ := h
  obtain ⟨ad', e, hab, hcs⟩ := hc h0
  injection e with e; subst e
  have HL := Lib.hid hl
  have HC := Lib.hid (show ∀ j u, (its.map hdV)[j]? = some u → (w.alloc (.cells #[] 44)).cell? (ad.add j) = some u from fun j u hj => keepa _ (hcs j u hj))
  have he : ∀ w, (binOp BinOp.eql 68 (Value.slice (some ad) m c) (Value.slice none 0 0)).run Try.prog w = .ok (.bool false) w := fun w => by kernel_rfl
  clear hl hc hcs
  go_enter Try.func71, Try.ntmps71
  go_wp2_with (at_builtin; refine wp_app (by rfl) _ _ 68 44 (.slice none 0 0) 1 24 (by rfl) Try.underlying68 info_sE rfl (by omega) w.heap.size (some ⟨w.heap.size, 0, none⟩) 0 0 [] (by rfl) (by exact Own.lit (Nat.le_refl _)) ad m c (its.map hdV) (by rfl) h0 (by rw [HL.out, Nat.mul_one]) (by exact HC.out) (by intro u hu; obtain ⟨y, _, rfl⟩ := List.mem_map.1 hu; rfl) (by omega) (by omega) (by simp) ?_; intro g' cap w2 own2 hb2 hk2 hg2 hz2)
  rw [Nat.zero_add, List.nil_append] at own2
  have O2 := Lib.hid own2; have B2 := Lib.hid ((below_size.alloc (Nat.le_refl _) (.cells #[] 44)).trans hb2)
  clear own2 hb2 hk2 hg2 hz2
  go_wp2_with fail
  go_ret
  exact ⟨g', cap, by simp, O2.out, B2.out⟩
set_option maxHeartbeats 4000000 in
set_option maxRecDepth 100000 in
theorem copyWhile1_c (kd vr ln : Int) (xA : Option Addr) (n xc : Nat) (xs : List (Int × Int)) (w : World) (h : Rd2 w xA n xs) (h0 : 0 < n) (hn40 : n ≤ 40) :
    Calls Try.prog 85 #[.agg #[.int .i64 kd, .int .i64 vr, .int .i64 ln, .slice xA n xc]] w (CmdOut (kd, vr, ln, xs) w) := by
  obtain ⟨a4, rfl, hab4, _⟩ := h.2 (by omega)
  have H := Lib.hid h
  obtain ⟨w3, hw3⟩ : ∃ w3, (w.alloc (.cells #[.int .i64 kd, .int .i64 vr, .int .i64 ln, .slice (some a4) n xc] 46)).alloc (.cells #[.int .i64 0, .int .i64 0, .int .i64 0, .slice none 0 0] 46) = w3 := ⟨_, rfl⟩
  have hz3 : w3.heap.size = w.heap.size + 2 := by rw [← hw3]; simp
  have E3 := Lib.hid (show Below w.heap.size w w3 by rw [← hw3]; exact (below_size.alloc (Nat.le_refl _) _).alloc (by simp) _)
  have K3 := Lib.hid (show Blk w3 w.heap.size 46 #[.int .i64 kd, .int .i64 vr, .int .i64 ln, .slice (some a4) n xc] by rw [← hw3]; exact (Blk.new _ _ _).alloc _)
  have Z3 := Lib.hid (show Blk w3 (w.heap.size + 1) 46 #[.int .i64 0, .int .i64 0, .int .i64 0, .slice none 0 0] by
    rw [← hw3]
    have := Blk.new (w.alloc (.cells #[.int .i64 kd, .int .i64 vr, .int .i64 ln, .slice (some a4) n xc] 46)) 46 #[.int .i64 0, .int .i64 0, .int .i64 0, .slice none 0 0]
    rwa [show (w.alloc (.cells #[.int .i64 kd, .int .i64 vr, .int .i64 ln, .slice (some a4) n xc] 46)).heap.size = w.heap.size + 1 from by simp] at this)
  have x3 : w3.cell? ⟨w.heap.size, 3, none⟩ = some (.slice (some a4) n xc) := K3.out.cell 3
  clear h
  go_enter Try.func85, Try.ntmps85
  go_wp2_with (go_at_call 37; refine (cloneExpr_c a4 n xc xs w3 (H.out.below E3.out) (by omega)).mono ?_; rintro e w5 ⟨A5, c5, rfl, hw5, hc5, hb5⟩; have E5 := Lib.hid (below_chain E3.out (by omega) hb5); have K5 := Lib.hid (K3.out.below hb5 (by omega)); have Z5 := Lib.hid (Z3.out.below hb5 (by omega)); have y0 : w5.cell? ⟨w.heap.size, 0, none⟩ = some (.int .i64 kd) := K5.out.cell 0; have y1 : w5.cell? ⟨w.heap.size, 1, none⟩ = some (.int .i64 vr) := K5.out.cell 1; have y2 : w5.cell? ⟨w.heap.size, 2, none⟩ = some (.int .i64 ln) := K5.out.cell 2; have y3 : w5.cell? ⟨w.heap.size, 3, none⟩ = some (.slice (some a4) n xc) := K5.out.cell 3; have f0 := K5.out.frozen 0; have f1 := K5.out.frozen 1; have f3 := K5.out.frozen 3; have r0 : w5.cell? ⟨w.heap.size + 1, 0, none⟩ = some (.int .i64 0) := Z5.out.cell 0; have r1 : w5.cell? ⟨w.heap.size + 1, 1, none⟩ = some (.int .i64 0) := Z5.out.cell 1; have r2 : w5.cell? ⟨w.heap.size + 1, 2, none⟩ = some (.int .i64 0) := Z5.out.cell 2; have r3 : w5.cell? ⟨w.heap.size + 1, 3, none⟩ = some (.slice none 0 0) := Z5.out.cell 3; have s0 := Z5.out.frozen 0; have s1 := Z5.out.frozen 1; have s2 := Z5.out.frozen 2; have s3 := Z5.out.frozen 3)
  obtain ⟨w6, hw6⟩ : ∃ w6, w5.setCell ⟨w.heap.size, 3, none⟩ (.slice A5 n c5) = w6 := ⟨_, rfl⟩
  rw [hw6]
  have hz5 := hb5.size
  have Z6 := Lib.hid (show Blk w6 (w.heap.size + 1) 46 #[.int .i64 0, .int .i64 0, .int .i64 0, .slice none 0 0] by rw [← hw6]; exact Z5.out.far (by show w.heap.size + 1 ≠ w.heap.size; omega) _)
  have E6 := Lib.hid (show Below w.heap.size w w6 by rw [← hw6]; exact E5.out.setCell (Nat.le_refl _) _)
  have W6 := Lib.hid (show Wr w6 (w.heap.size + 2) w6.heap.size A5 (n * 2) (xs.flatMap enc2) by rw [← hw6, World.size_setCell]; exact (hw5.wider (by omega) (Nat.le_refl _)).set_far (.inl (by show w.heap.size < w.heap.size + 2; omega)) _)
  obtain ⟨wE, hwE⟩ : ∃ wE, (((w6.setCell ⟨w.heap.size + 1, 0, none⟩ (.int .i64 kd)).setCell ⟨w.heap.size + 1, 1, none⟩ (.int .i64 vr)).setCell ⟨w.heap.size + 1, 2, none⟩ (.int .i64 ln)).setCell ⟨w.heap.size + 1, 3, none⟩ (.slice A5 n c5) = wE := ⟨_, rfl⟩
  rw [hwE]
  have ZE : Blk wE (w.heap.size + 1) 46 #[.int .i64 kd, .int .i64 vr, .int .i64 ln, .slice A5 n c5] := by rw [← hwE]; exact (((Z6.out.set_ 0 _).set_ 1 _).set_ 2 _).set_ 3 _
  have BE : Below w.heap.size w wE := by rw [← hwE]; exact (((E6.out.setCell (by show w.heap.size ≤ w.heap.size + 1; omega) _).setCell (by show w.heap.size ≤ w.heap.size + 1; omega) _).setCell (by show w.heap.size ≤ w.heap.size + 1; omega) _).setCell (by show w.heap.size ≤ w.heap.size + 1; omega) _
  have WE : Wr wE w.heap.size wE.heap.size A5 (n * 2) (xs.flatMap enc2) := by
    rw [← hwE]
    simp only [World.size_setCell]
    exact ((((W6.out.set_far (.inl (by show w.heap.size + 1 < w.heap.size + 2; omega)) _).set_far (.inl (by show w.heap.size + 1 < w.heap.size + 2; omega)) _).set_far (.inl (by show w.heap.size + 1 < w.heap.size + 2; omega)) _).set_far (.inl (by show w.heap.size + 1 < w.heap.size + 2; omega)) _).wider (by omega) (Nat.le_refl _)
  have e0 : wE.cell? ⟨w.heap.size + 1, 0, none⟩ = some (.int .i64 kd) := ZE.cell 0
  have e1 : wE.cell? ⟨w.heap.size + 1, 1, none⟩ = some (.int .i64 vr) := ZE.cell 1
  have e2 : wE.cell? ⟨w.heap.size + 1, 2, none⟩ = some (.int .i64 ln) := ZE.cell 2
  have e3 : wE.cell? ⟨w.heap.size + 1, 3, none⟩ = some (.slice A5 n c5) := ZE.cell 3
  refine bodyPost_ret (v := .agg #[.int .i64 kd, .int .i64 vr, .int .i64 ln, .slice A5 n c5]) (by simp [results, Try.results85, go_sem, e0, e1, e2, e3]) rfl ?_
  exact ⟨⟨kd, vr, ln, A5, n, c5, xs⟩, rfl, rfl, WE, by show n ≤ 1000000; omega, hc5, BE⟩
theorem copyWhile_c (A : Option Addr) (n c : Nat) (ps : List Ct) (D : List Cmd) (w : World) (h : RdS w (sgCS A n ps)) (hn : n ≤ 100) (hD : ps.map datC = D) (hi : ∀ t ∈ ps, 0 < t.n ∧ t.n ≤ 40) :
    Calls Try.prog 65 #[.slice A n c] w fun e w' => ∃ (A' : Option Addr) (c' : Nat) (js : List Ct), e = .returned (.slice A' n c') ∧ OwnS w' w.heap.size 46 4 A' n c' (js.flatMap hdC) (js.map bodyC) ∧ js.map datC = D ∧ (∀ t ∈ js, t.n ≤ 1000000) ∧ Below w.heap.size w w' := by
  have H := Lib.hid h; have HI := Lib.hid hi
  clear h hi
  go_enter Try.func65, Try.ntmps65
  go_wp2_with fail
  refine (mappedC_c id A n c ps D w H.out hn hD ?_).mono ?_
  · intro t ht wz hbz
    have hrd : Rd2 wz t.A t.n t.xs := (H.out.below hbz).tail (bodyC t) (List.mem_map_of_mem ht)
    exact copyWhile1_c t.kd t.vr t.ln t.A t.n t.c t.xs wz hrd (HI.out t ht).1 (HI.out t ht).2
  rintro e w3 ⟨A', c', js, rfl, hO, hj, hj1, hb3⟩
  have O3 := Lib.hid hO; have J3 := Lib.hid (show js.map datC = D by rw [hj, List.map_id]); have I3 := Lib.hid hj1; have B3 := Lib.hid hb3
  clear hO hj hj1 hb3
  go_wp2_with fail
  go_ret
  exact ⟨A', c', js, rfl, O3.out, J3.out, I3.out, B3.out⟩

/-- the places of n variables, as they lie in memory -/
structure PlacesAt (w : World) (N : Nat) (A : Option Addr) (its : List ItV) : Prop where
  rd : RdV w 2 A N its
  vs : its.map ItV.vs = (List.range N).map fun j => (placeP j N).flatMap enc2
  le : ∀ t ∈ its, t.n ≤ 20 ∧ t.n ≤ t.c
theorem PlacesAt.below {w w' : World} {N : Nat} {A : Option Addr} {its : List ItV} (h : PlacesAt w N A its) (hb : Below w.heap.size w w') : PlacesAt w' N A its := ⟨h.rd.below hb, h.vs, h.le⟩
theorem list_set_vs {N v : Nat} {its : List ItV} {F : List (Int × Int)} {A : Option Addr} {n c : Nat} (h : its.map ItV.vs = (List.range N).map fun j => (placeP j N).flatMap enc2) : (its.set v ⟨A, n, c, F.flatMap enc2⟩).map ItV.vs = (listP N v F).map (·.flatMap enc2) := by
  have hl : its.length = N := by have := congrArg List.length h; simpa using this
  apply List.ext_getElem?
  intro j
  rw [List.getElem?_map, List.getElem?_map]
  rcases Nat.lt_or_ge j N with hj | hj
  · rw [listP_at hj]
    by_cases hjv : j = v
    · subst hjv
      rw [List.getElem?_set_self (by omega), if_pos rfl]; rfl
    · rw [List.getElem?_set_ne (Ne.symm hjv), if_neg hjv]
      have := congrArg (fun l => l[j]?) h
      simpa [hj] using this
  · rw [List.getElem?_eq_none (by rw [List.length_set]; omega), List.getElem?_eq_none (by rw [listP_len]; omega)]; rfl
set_option maxHeartbeats 8000000 in
set_option maxRecDepth 100000 in
theorem oneVariable1_c (N pn pl : Nat) (la : Addr) (lc : Nat) (its : List ItV) (kd : Int) (v : Nat) (ln : Int) (xA : Option Addr) (n xc : Nat) (xs : List (Int × Int)) (w : World)
    (hp : w.cell? ⟨pn, 0, none⟩ = some (.int .i64 N)) (hq : w.cell? ⟨pl, 0, none⟩ = some (.slice (some la) N lc)) (hP : PlacesAt w N (some la) its) (hN : 2 ≤ N ∧ N ≤ 6)
    (h : Rd2 w xA n xs) (hv : validE xs = true) (hv0 : kd = 0 ∨ v = 0) (hvN : v < N) :
    Calls Try.prog 69 #[.agg #[.int .i64 kd, .int .i64 v, .int .i64 ln, .slice xA n xc], .pointer (some ⟨pn, 0, none⟩), .pointer (some ⟨pl, 0, none⟩)] w (CmdOut (oneC N (kd, (v : Int), ln, xs)) w) := by
  obtain ⟨hv1, hv2, hv3, hv4⟩ := validE_end hv
  have hl := h.len
  have hn40 : n ≤ 40 := by omega
  obtain ⟨F, hF⟩ : ∃ F, movedP xs N = F := ⟨_, rfl⟩
  have hFp : 1 ≤ F.length := by rw [← hF]; exact movedP_pos hv2
  have hFl : F.length ≤ 280 := by rw [← hF]; exact Nat.le_trans (movedP_len N xs fun y hy _ => (okE_bd (List.all_eq_true.1 hv4 y hy)).2) (by omega)
  have H := Lib.hid h; have HF := Lib.hid hF; have HV4 := Lib.hid hv4; have HP := Lib.hid hP; have HPN := Lib.hid hp; have HPL := Lib.hid hq
  obtain ⟨w3, hw3⟩ : ∃ w3, (w.alloc (.cells #[.int .i64 kd, .int .i64 v, .int .i64 ln, .slice xA n xc] 46)).alloc (.cells #[.int .i64 0, .int .i64 0, .int .i64 0, .slice none 0 0] 46) = w3 := ⟨_, rfl⟩
  have hz3 : w3.heap.size = w.heap.size + 2 := by rw [← hw3]; simp
  have E3 := Lib.hid (show Below w.heap.size w w3 by rw [← hw3]; exact (below_size.alloc (Nat.le_refl _) _).alloc (by simp) _)
  have K3 := Lib.hid (show Blk w3 w.heap.size 46 #[.int .i64 kd, .int .i64 v, .int .i64 ln, .slice xA n xc] by rw [← hw3]; exact (Blk.new _ _ _).alloc _)
  have Z3 := Lib.hid (show Blk w3 (w.heap.size + 1) 46 #[.int .i64 0, .int .i64 0, .int .i64 0, .slice none 0 0] by
    rw [← hw3]
    have := Blk.new (w.alloc (.cells #[.int .i64 kd, .int .i64 v, .int .i64 ln, .slice xA n xc] 46)) 46 #[.int .i64 0, .int .i64 0, .int .i64 0, .slice none 0 0]
    rwa [show (w.alloc (.cells #[.int .i64 kd, .int .i64 v, .int .i64 ln, .slice xA n xc] 46)).heap.size = w.heap.size + 1 from by simp] at this)
  have x3 : w3.cell? ⟨w.heap.size, 3, none⟩ = some (.slice xA n xc) := K3.out.cell 3
  have p3 := keepc E3.out hp
  have hNb : N ≤ 10 := by omega
  clear h hv hv4 hl hF hp hq hP
  by_cases hk0 : kd = 0
  · subst hk0
    have HR := Lib.hid (show oneC N (0, (v : Int), ln, xs) = (0, 0, ln, packedP (listP N v F)) by show (0, (0 : Int), ln, if (0 : Int) = 0 then packedP (listP N ((v : Int)).toNat (movedP xs N)) else movedP xs N) = _; rw [if_pos rfl, Int.toNat_natCast, HF.out])
    rw [HR.out]
    go_enter Try.func69, Try.ntmps69
    go_wp2_with (go_at_call 70; refine (placedExpr_c xA n xc xs N w3 (H.out.below E3.out) hn40 HV4.out hNb).mono ?_; rw [HF.out]; rintro e w5 ⟨A5, m5, c5, rfl, hw5, hc5, hb5⟩; have hm5 := wr_len2 hw5; have E5 := Lib.hid (below_chain E3.out (by omega) hb5); have K5 := Lib.hid (K3.out.below hb5 (by omega)); have Z5 := Lib.hid (Z3.out.below hb5 (by omega)); have q5 := keepc E5.out HPL.out; have y0 : w5.cell? ⟨w.heap.size, 0, none⟩ = some (.int .i64 0) := K5.out.cell 0; have y1 : w5.cell? ⟨w.heap.size, 1, none⟩ = some (.int .i64 v) := K5.out.cell 1; have y2 : w5.cell? ⟨w.heap.size, 2, none⟩ = some (.int .i64 ln) := K5.out.cell 2; have y3 : w5.cell? ⟨w.heap.size, 3, none⟩ = some (.slice xA n xc) := K5.out.cell 3; have f0 := K5.out.frozen 0; have f1 := K5.out.frozen 1; have f3 := K5.out.frozen 3; have r0 : w5.cell? ⟨w.heap.size + 1, 0, none⟩ = some (.int .i64 0) := Z5.out.cell 0; have r1 : w5.cell? ⟨w.heap.size + 1, 1, none⟩ = some (.int .i64 0) := Z5.out.cell 1; have r2 : w5.cell? ⟨w.heap.size + 1, 2, none⟩ = some (.int .i64 0) := Z5.out.cell 2; have r3 : w5.cell? ⟨w.heap.size + 1, 3, none⟩ = some (.slice none 0 0) := Z5.out.cell 3; have s0 := Z5.out.frozen 0; have s1 := Z5.out.frozen 1; have s2 := Z5.out.frozen 2; have s3 := Z5.out.frozen 3)
    obtain ⟨w6, hw6⟩ : ∃ w6, w5.setCell ⟨w.heap.size, 3, none⟩ (.slice A5 m5 c5) = w6 := ⟨_, rfl⟩
    rw [hw6]
    have hz5 := hb5.size
    have K6 := Lib.hid (show Blk w6 w.heap.size 46 #[.int .i64 0, .int .i64 v, .int .i64 ln, .slice A5 m5 c5] by rw [← hw6]; exact K5.out.set_ 3 _)
    have Z6 := Lib.hid (show Blk w6 (w.heap.size + 1) 46 #[.int .i64 0, .int .i64 0, .int .i64 0, .slice none 0 0] by rw [← hw6]; exact Z5.out.far (by show w.heap.size + 1 ≠ w.heap.size; omega) _)
    have E6 := Lib.hid (show Below w.heap.size w w6 by rw [← hw6]; exact E5.out.setCell (Nat.le_refl _) _)
    have W6 := Lib.hid (show Wr w6 (w.heap.size + 2) w6.heap.size A5 (m5 * 2) (F.flatMap enc2) by rw [← hw6, World.size_setCell]; exact (hw5.wider (by omega) (Nat.le_refl _)).set_far (.inl (by show w.heap.size < w.heap.size + 2; omega)) _)
    have hz6 := E6.out.size
    have hz6' : w.heap.size + 2 ≤ w6.heap.size := by rw [← hw6, World.size_setCell]; omega
    clear hw5 hb5
    refine (cloneEE_c la N lc its w6 (HP.out.rd.head.below E6.out) (by omega) (by omega)).mono ?_
    rintro e w7 ⟨g, cap, rfl, hO7, hb7⟩
    obtain ⟨hg1, hg2, _, _⟩ := hO7.block rfl
    have hg3 : w6.heap.size ≤ g := hg1
    have hg4 : g < w7.heap.size := hg2
    have hW7 := hO7.wr
    have hcap := hO7.cap
    have E7 := Lib.hid (below_chain E6.out hz6 hb7)
    have K7 := Lib.hid (K6.out.below hb7 (by omega)); have Z7 := Lib.hid (Z6.out.below hb7 (by omega))
    have hz7 := hb7.size
    have hil : its.length = N := HP.out.rd.len
    obtain ⟨tv, htv⟩ : ∃ tv, its[v]? = some tv := ⟨_, List.getElem?_eq_getElem (by omega)⟩
    obtain ⟨_, uv, eg, _, _, _, huv, huc, huf⟩ := hW7.at_ (k := v) hvN
    injection eg with eg; subst eg
    rw [head_add] at huc huf
    obtain ⟨w8, hw8⟩ : ∃ w8, w7.setCell ⟨g, v, none⟩ (.slice A5 m5 c5) = w8 := ⟨_, rfl⟩
    have hW8 := hW7.set hvN (.slice A5 m5 c5)
    rw [head_add, hw8, ← show hdV ⟨A5, m5, c5, F.flatMap enc2⟩ = .slice A5 m5 c5 from rfl, ← List.map_set] at hW8
    have E8 := Lib.hid (show Below w.heap.size w w8 by rw [← hw8]; exact E7.out.setCell (by show w.heap.size ≤ g; omega) _)
    have W58 := Lib.hid (show Wr w8 (w.heap.size + 2) w6.heap.size A5 (m5 * 2) (F.flatMap enc2) by rw [← hw8]; exact (W6.out.below hb7).set_far (.inr hg3) _)
    have K8 := Lib.hid (show Blk w8 w.heap.size 46 #[.int .i64 0, .int .i64 v, .int .i64 ln, .slice A5 m5 c5] by rw [← hw8]; exact K7.out.far (by show w.heap.size ≠ g; omega) _)
    have Z8 := Lib.hid (show Blk w8 (w.heap.size + 1) 46 #[.int .i64 0, .int .i64 0, .int .i64 0, .slice none 0 0] by rw [← hw8]; exact Z7.out.far (by show w.heap.size + 1 ≠ g; omega) _)
    have RV8 := Lib.hid (show RdV w8 2 (some ⟨g, 0, none⟩) N (its.set v ⟨A5, m5, c5, F.flatMap enc2⟩) from ⟨hW8.rd, fun t ht => by
        rcases List.mem_or_eq_of_mem_set ht with ht | rfl
        · exact (HP.out.rd.each t ht).below E8.out
        · exact W58.out.rd, fun t ht => by
        rcases List.mem_or_eq_of_mem_set ht with ht | rfl
        · exact HP.out.rd.one t ht
        · exact one_pairs _⟩)
    have HLE := Lib.hid (show ∀ t ∈ its.set v ⟨A5, m5, c5, F.flatMap enc2⟩, t.n ≤ 1000 ∧ t.n ≤ t.c from fun t ht => by
        rcases List.mem_or_eq_of_mem_set ht with ht | rfl
        · have := HP.out.le t ht; exact ⟨by omega, this.2⟩
        · exact ⟨by show m5 ≤ 1000; omega, hc5⟩)
    have HSV := Lib.hid (list_set_vs (v := v) (F := F) (A := A5) (n := m5) (c := c5) HP.out.vs)
    obtain ⟨X8, hX8⟩ : ∃ X8, packedP (listP N v F) = X8 := ⟨_, rfl⟩
    have HX8 := Lib.hid hX8
    have hX8l : X8.length ≤ 2000 := by
      rw [← hX8]
      refine Nat.le_trans (packedP_len _) ?_
      have h1 := sumL_le (ls := listP N v F) (b := 280) (fun x hx => by
        unfold listP at hx
        obtain ⟨q, hq, rfl⟩ := List.mem_map.1 hx
        have h3 := List.mem_range.1 hq
        have h4 := placeP_len q N
        split
        · exact hFl
        · omega)
      rw [listP_len] at h1 ⊢
      have : N * 280 ≤ 6 * 280 := Nat.mul_le_mul_right _ hN.2
      omega
    rw [hX8]
    have hz8 : w6.heap.size ≤ w8.heap.size := by rw [← hw8, World.size_setCell]; exact hz7
    have k1 : w7.cell? ⟨w.heap.size, 1, none⟩ = some (.int .i64 v) := K7.out.cell 1
    have k3 : w7.cell? ⟨w.heap.size, 3, none⟩ = some (.slice A5 m5 c5) := K7.out.cell 3
    clear hO7 hb7 hW7 hW8 htv huv hX8 y0 y1 y2 y3 r0 r1 r2 r3 f0 f1 f3 s0 s1 s2 s3 q5 x3 p3 hg1 hg2
    go_wp2_with (go_at_call 68; refine (packed_c 10 (some ⟨g, 0, none⟩) N cap _ (listP N v F) w8 RV8.out HSV.out (by omega) (by omega) hNb hcap (fun t ht => (HLE.out t ht).1) (fun t ht => (HLE.out t ht).2)).mono ?_; rw [HX8.out]; rintro e w9 ⟨A9, m9, c9, rfl, hr9, hc9, hw9, hb9⟩; have hm9 := hr9.len; have E9 := Lib.hid (below_chain E8.out (by omega) hb9); have K9 := Lib.hid (K8.out.below hb9 (by omega)); have Z9 := Lib.hid (Z8.out.below hb9 (by omega)); have y0 : w9.cell? ⟨w.heap.size, 0, none⟩ = some (.int .i64 0) := K9.out.cell 0; have y1 : w9.cell? ⟨w.heap.size, 1, none⟩ = some (.int .i64 v) := K9.out.cell 1; have y2 : w9.cell? ⟨w.heap.size, 2, none⟩ = some (.int .i64 ln) := K9.out.cell 2; have y3 : w9.cell? ⟨w.heap.size, 3, none⟩ = some (.slice A5 m5 c5) := K9.out.cell 3; have f1 := K9.out.frozen 1; have f3 := K9.out.frozen 3; have r0 : w9.cell? ⟨w.heap.size + 1, 0, none⟩ = some (.int .i64 0) := Z9.out.cell 0; have r1 : w9.cell? ⟨w.heap.size + 1, 1, none⟩ = some (.int .i64 0) := Z9.out.cell 1; have r2 : w9.cell? ⟨w.heap.size + 1, 2, none⟩ = some (.int .i64 0) := Z9.out.cell 2; have r3 : w9.cell? ⟨w.heap.size + 1, 3, none⟩ = some (.slice none 0 0) := Z9.out.cell 3; have s0 := Z9.out.frozen 0; have s1 := Z9.out.frozen 1; have s2 := Z9.out.frozen 2; have s3 := Z9.out.frozen 3)
    obtain ⟨w10, hw10⟩ : ∃ w10, (w9.setCell ⟨w.heap.size, 1, none⟩ (.int .i64 0)).setCell ⟨w.heap.size, 3, none⟩ (.slice A9 m9 c9) = w10 := ⟨_, rfl⟩
    rw [hw10, HX8.out]
    have hz9 := hb9.size
    have Z10 := Lib.hid (show Blk w10 (w.heap.size + 1) 46 #[.int .i64 0, .int .i64 0, .int .i64 0, .slice none 0 0] by rw [← hw10]; exact (Z9.out.far (by show w.heap.size + 1 ≠ w.heap.size; omega) _).far (by show w.heap.size + 1 ≠ w.heap.size; omega) _)
    have E10 := Lib.hid (show Below w.heap.size w w10 by rw [← hw10]; exact (E9.out.setCell (Nat.le_refl _) _).setCell (Nat.le_refl _) _)
    have W10 := Lib.hid (show Wr w10 (w.heap.size + 2) w10.heap.size A9 (m9 * 2) (X8.flatMap enc2) by
      rw [← hw10]
      simp only [World.size_setCell]
      exact (((hw9 hN.1).set_far (.inl (by show w.heap.size < w8.heap.size; omega)) _).set_far (.inl (by show w.heap.size < w8.heap.size; omega)) _).wider (by omega) (Nat.le_refl _))
    obtain ⟨wE, hwE⟩ : ∃ wE, (((w10.setCell ⟨w.heap.size + 1, 0, none⟩ (.int .i64 0)).setCell ⟨w.heap.size + 1, 1, none⟩ (.int .i64 0)).setCell ⟨w.heap.size + 1, 2, none⟩ (.int .i64 ln)).setCell ⟨w.heap.size + 1, 3, none⟩ (.slice A9 m9 c9) = wE := ⟨_, rfl⟩
    rw [hwE]
    have ZE : Blk wE (w.heap.size + 1) 46 #[.int .i64 0, .int .i64 0, .int .i64 ln, .slice A9 m9 c9] := by rw [← hwE]; exact (((Z10.out.set_ 0 _).set_ 1 _).set_ 2 _).set_ 3 _
    have BE : Below w.heap.size w wE := by rw [← hwE]; exact (((E10.out.setCell (by show w.heap.size ≤ w.heap.size + 1; omega) _).setCell (by show w.heap.size ≤ w.heap.size + 1; omega) _).setCell (by show w.heap.size ≤ w.heap.size + 1; omega) _).setCell (by show w.heap.size ≤ w.heap.size + 1; omega) _
    have WE : Wr wE w.heap.size wE.heap.size A9 (m9 * 2) (X8.flatMap enc2) := by
      rw [← hwE]
      simp only [World.size_setCell]
      exact ((((W10.out.set_far (.inl (by show w.heap.size + 1 < w.heap.size + 2; omega)) _).set_far (.inl (by show w.heap.size + 1 < w.heap.size + 2; omega)) _).set_far (.inl (by show w.heap.size + 1 < w.heap.size + 2; omega)) _).set_far (.inl (by show w.heap.size + 1 < w.heap.size + 2; omega)) _).wider (by omega) (Nat.le_refl _)
    have e0 : wE.cell? ⟨w.heap.size + 1, 0, none⟩ = some (.int .i64 0) := ZE.cell 0
    have e1 : wE.cell? ⟨w.heap.size + 1, 1, none⟩ = some (.int .i64 0) := ZE.cell 1
    have e2 : wE.cell? ⟨w.heap.size + 1, 2, none⟩ = some (.int .i64 ln) := ZE.cell 2
    have e3 : wE.cell? ⟨w.heap.size + 1, 3, none⟩ = some (.slice A9 m9 c9) := ZE.cell 3
    refine bodyPost_ret (v := .agg #[.int .i64 0, .int .i64 0, .int .i64 ln, .slice A9 m9 c9]) (by simp [results, Try.results69, go_sem, e0, e1, e2, e3]) rfl ?_
    exact ⟨⟨0, 0, ln, A9, m9, c9, X8⟩, rfl, rfl, WE, by show m9 ≤ 1000000; omega, hc9, BE⟩
  · have g0 : (kd == 0) = false := by simpa using hk0
    have HV0 := Lib.hid (show v = 0 by omega)
    clear hv0
    have HR := Lib.hid (show oneC N (kd, (v : Int), ln, xs) = (kd, (v : Int), ln, F) by show (kd, (0 : Int), ln, if kd = 0 then _ else movedP xs N) = _; rw [if_neg hk0, HF.out, HV0.out]; rfl)
    rw [HR.out]
    go_enter Try.func69, Try.ntmps69
    go_wp2_with (go_at_call 70; refine (placedExpr_c xA n xc xs N w3 (H.out.below E3.out) hn40 HV4.out hNb).mono ?_; rw [HF.out]; rintro e w5 ⟨A5, m5, c5, rfl, hw5, hc5, hb5⟩; have hm5 := wr_len2 hw5; have E5 := Lib.hid (below_chain E3.out (by omega) hb5); have K5 := Lib.hid (K3.out.below hb5 (by omega)); have Z5 := Lib.hid (Z3.out.below hb5 (by omega)); have y0 : w5.cell? ⟨w.heap.size, 0, none⟩ = some (.int .i64 kd) := K5.out.cell 0; have y1 : w5.cell? ⟨w.heap.size, 1, none⟩ = some (.int .i64 (v : Int)) := K5.out.cell 1; have y2 : w5.cell? ⟨w.heap.size, 2, none⟩ = some (.int .i64 ln) := K5.out.cell 2; have y3 : w5.cell? ⟨w.heap.size, 3, none⟩ = some (.slice xA n xc) := K5.out.cell 3; have f0 := K5.out.frozen 0; have f1 := K5.out.frozen 1; have f3 := K5.out.frozen 3; have r0 : w5.cell? ⟨w.heap.size + 1, 0, none⟩ = some (.int .i64 0) := Z5.out.cell 0; have r1 : w5.cell? ⟨w.heap.size + 1, 1, none⟩ = some (.int .i64 0) := Z5.out.cell 1; have r2 : w5.cell? ⟨w.heap.size + 1, 2, none⟩ = some (.int .i64 0) := Z5.out.cell 2; have r3 : w5.cell? ⟨w.heap.size + 1, 3, none⟩ = some (.slice none 0 0) := Z5.out.cell 3; have s0 := Z5.out.frozen 0; have s1 := Z5.out.frozen 1; have s2 := Z5.out.frozen 2; have s3 := Z5.out.frozen 3)
    obtain ⟨w6, hw6⟩ : ∃ w6, w5.setCell ⟨w.heap.size, 3, none⟩ (.slice A5 m5 c5) = w6 := ⟨_, rfl⟩
    rw [hw6]
    have hz5 := hb5.size
    have Z6 := Lib.hid (show Blk w6 (w.heap.size + 1) 46 #[.int .i64 0, .int .i64 0, .int .i64 0, .slice none 0 0] by rw [← hw6]; exact Z5.out.far (by show w.heap.size + 1 ≠ w.heap.size; omega) _)
    have E6 := Lib.hid (show Below w.heap.size w w6 by rw [← hw6]; exact E5.out.setCell (Nat.le_refl _) _)
    have W6 := Lib.hid (show Wr w6 (w.heap.size + 2) w6.heap.size A5 (m5 * 2) (F.flatMap enc2) by rw [← hw6, World.size_setCell]; exact (hw5.wider (by omega) (Nat.le_refl _)).set_far (.inl (by show w.heap.size < w.heap.size + 2; omega)) _)
    obtain ⟨wE, hwE⟩ : ∃ wE, (((w6.setCell ⟨w.heap.size + 1, 0, none⟩ (.int .i64 kd)).setCell ⟨w.heap.size + 1, 1, none⟩ (.int .i64 (v : Int))).setCell ⟨w.heap.size + 1, 2, none⟩ (.int .i64 ln)).setCell ⟨w.heap.size + 1, 3, none⟩ (.slice A5 m5 c5) = wE := ⟨_, rfl⟩
    rw [hwE]
    have ZE : Blk wE (w.heap.size + 1) 46 #[.int .i64 kd, .int .i64 (v : Int), .int .i64 ln, .slice A5 m5 c5] := by rw [← hwE]; exact (((Z6.out.set_ 0 _).set_ 1 _).set_ 2 _).set_ 3 _
    have BE : Below w.heap.size w wE := by rw [← hwE]; exact (((E6.out.setCell (by show w.heap.size ≤ w.heap.size + 1; omega) _).setCell (by show w.heap.size ≤ w.heap.size + 1; omega) _).setCell (by show w.heap.size ≤ w.heap.size + 1; omega) _).setCell (by show w.heap.size ≤ w.heap.size + 1; omega) _
    have WE : Wr wE w.heap.size wE.heap.size A5 (m5 * 2) (F.flatMap enc2) := by
      rw [← hwE]
      simp only [World.size_setCell]
      exact ((((W6.out.set_far (.inl (by show w.heap.size + 1 < w.heap.size + 2; omega)) _).set_far (.inl (by show w.heap.size + 1 < w.heap.size + 2; omega)) _).set_far (.inl (by show w.heap.size + 1 < w.heap.size + 2; omega)) _).set_far (.inl (by show w.heap.size + 1 < w.heap.size + 2; omega)) _).wider (by omega) (Nat.le_refl _)
    have e0 : wE.cell? ⟨w.heap.size + 1, 0, none⟩ = some (.int .i64 kd) := ZE.cell 0
    have e1 : wE.cell? ⟨w.heap.size + 1, 1, none⟩ = some (.int .i64 (v : Int)) := ZE.cell 1
    have e2 : wE.cell? ⟨w.heap.size + 1, 2, none⟩ = some (.int .i64 ln) := ZE.cell 2
    have e3 : wE.cell? ⟨w.heap.size + 1, 3, none⟩ = some (.slice A5 m5 c5) := ZE.cell 3
    refine bodyPost_ret (v := .agg #[.int .i64 kd, .int .i64 (v : Int), .int .i64 ln, .slice A5 m5 c5]) (by simp [results, Try.results69, go_sem, e0, e1, e2, e3]) rfl ?_
    exact ⟨⟨kd, (v : Int), ln, A5, m5, c5, F⟩, rfl, rfl, WE, by show m5 ≤ 1000000; omega, hc5, BE⟩
end Go.Proofs.Ytecpbgmcednpoaa
