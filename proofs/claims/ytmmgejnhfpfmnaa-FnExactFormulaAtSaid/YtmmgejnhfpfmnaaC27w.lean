/-
  Contracts of chapter 27 (RepeatsIn): a formula tape out of its parts, and whether it fits.
-/
import Derived.Test.YtmmgejnhfpfmnaaC27t
namespace Go.Proofs.Ytmmgejnhfpfmnaa
open Go.RowKit

/-- what 'bounced' gives back -/
def BnOut (s : Int) (ps : List (List Int)) (b c : List Int) (w : World) (e : Ending) (w' : World) : Prop :=
  ∃ A0 n0 c0 its0 A1 n1 c1 its1 A2 n2 c2, e = .returned (.tuple #[.agg #[i64 s, i64 (formF s (partsF ps)).2.1, i64 (formF s (partsF ps)).2.2.1, .slice A0 n0 c0, .slice A1 n1 c1, .slice A2 n2 c2], .bool (decide (oneP ps = b) && decide (dblP true ps = c))]) ∧
    FoR (formF s (partsF ps)) w.heap.size w' A0 n0 its0 A1 n1 its1 A2 n2 ∧ Below w.heap.size w w'
theorem info_I64S4 : (Try.prog.info? 25).map (fun i => (i.zero, i.size, i.bytes)) = some (some (.slice none 0 0), 1, 24) := by kernel_rfl
theorem Four.setG {w : World} {B L g : Nat} {cs : Array Value} {O : Option Addr} {n c : Nat} {xs : List Int} {T : Option Addr} {n' c' : Nat} {ys : List Int} {A0 : Option Addr} {m0 d0 : Nat} {its0 : List It} {A1 : Option Addr} {m1 d1 : Nat} {its1 : List It}
    (h : Four w B L O n c xs T n' c' ys A0 m0 d0 its0 A1 m1 d1 its1) (hg : Blk w g 29 cs) (hl : g < L) (i : Nat) (u : Value) : Four (w.setCell ⟨g, i, none⟩ u) B L O n c xs T n' c' ys A0 m0 d0 its0 A1 m1 d1 its1 := by
  have hk : ∀ b, b ≠ g → (w.setCell ⟨g, i, none⟩ u).heap[b]? = w.heap[b]? := fun b hb => Below.heap_setCell w _ u b hb
  have hz : w.heap.size ≤ (w.setCell ⟨g, i, none⟩ u).heap.size := by simp
  refine ⟨h.o.moveF (fun b hb => hk b ?_) hz, h.t.moveF (fun b hb => hk b ?_) hz, h.a.moveF (fun b hb => hk b (by have := (h.a.lt hb).1; omega)) hz, h.r.moveF (fun b hb => hk b (by have := (h.r.lt hb).1; omega)) hz, h.ot, h.oa, h.or_, h.ta, h.tr, h.ar⟩
  · rcases hb with ⟨ad, e, rfl⟩ | ⟨_, hs, _⟩
    · exact h.o.own.ne_ hg (by decide) ad e
    · cases hs
  · rcases hb with ⟨ad, e, rfl⟩ | ⟨_, hs, _⟩
    · exact h.t.own.ne_ hg (by decide) ad e
    · cases hs
set_option maxHeartbeats 8000000 in
set_option maxRecDepth 100000 in
theorem bounced_c (s : Int) (B C P : Option Addr) (nb cb nc cc np cp : Nat) (b c : List Int) (its : List It) (w : World) (hb : RdI w B nb b) (hc : RdI w C nc c) (hp : RdS w (sgII P np its)) (hnp : 1 ≤ np ∧ np ≤ 9) (hi : ∀ t ∈ its, t.n ≤ 100) (hnb : nb ≤ 1000000) (hnc : nc ≤ 1000000)
    (hwr : (wallsP true (its.map It.xs)).length = (repsP true (its.map It.xs)).length + 1) :
    Calls Try.prog 93 #[.int .i64 s, .slice B nb cb, .slice C nc cc, .slice P np cp] w (BnOut s (its.map It.xs) b c w) := by
  have HLP := Lib.hid (RdII.len hp)
  obtain ⟨ps, hps⟩ : ∃ ps, its.map It.xs = ps := ⟨_, rfl⟩
  rw [hps] at hwr ⊢
  have HPS := Lib.hid hps; have HWR := Lib.hid hwr
  have HB := Lib.hid hb; have HC := Lib.hid hc; have HP := Lib.hid hp; have HI := Lib.hid hi
  clear hb hc hp hi hps hwr
  have bz := Blk.new (((w.alloc (.cells #[i64 0, i64 0, i64 0, .slice none 0 0, .slice none 0 0, .slice none 0 0] 29)).alloc (.cells #[] 2)).alloc (.cells #[] 2)) 29 #[i64 0, i64 0, i64 0, .slice none 0 0, .slice none 0 0, .slice none 0 0]
  simp only [World.size_alloc] at bz
  have m0 := bz.cell 0; have m1 := bz.cell 1; have m2 := bz.cell 2; have m3 := bz.cell 3; have m4 := bz.cell 4; have m5 := bz.cell 5
  have f0 := bz.frozen 0; have f1 := bz.frozen 1; have f2 := bz.frozen 2; have f3 := bz.frozen 3; have f4 := bz.frozen 4; have f5 := bz.frozen 5
  simp at m0 m1 m2 m3 m4 m5
  clear bz
  go_enter Try.func93, Try.ntmps93
  go_wp2_with fail
  clear m0 m1 m2 m3 m4 m5 f0 f1 f2 f3 f4 f5
  obtain ⟨w0, hw0⟩ : ∃ w0, (((w.alloc (.cells #[i64 0, i64 0, i64 0, .slice none 0 0, .slice none 0 0, .slice none 0 0] 29)).alloc (.cells #[] 2)).alloc (.cells #[] 2)).alloc (.cells #[i64 s, i64 0, i64 0, .slice none 0 0, .slice none 0 0, .slice none 0 0] 29) = w0 := ⟨_, rfl⟩
  have B0 := Lib.hid (show Below w.heap.size w w0 by rw [← hw0]; exact (((below_size.alloc (Nat.le_refl _) _).alloc (by simp) _).alloc (by simp; omega) _).alloc (by simp; omega) _)
  have Z0 := Lib.hid (show Blk w0 w.heap.size 29 #[i64 0, i64 0, i64 0, .slice none 0 0, .slice none 0 0, .slice none 0 0] by rw [← hw0]; exact (((Blk.new w _ _).alloc _).alloc _).alloc _)
  have G0 := Lib.hid (show Blk w0 (w.heap.size + 1 + 1 + 1) 29 #[i64 s, i64 0, i64 0, .slice none 0 0, .slice none 0 0, .slice none 0 0] by
    have := Blk.new (((w.alloc (.cells #[i64 0, i64 0, i64 0, .slice none 0 0, .slice none 0 0, .slice none 0 0] 29)).alloc (.cells #[] 2)).alloc (.cells #[] 2)) 29 #[i64 s, i64 0, i64 0, .slice none 0 0, .slice none 0 0, .slice none 0 0]
    simp only [World.size_alloc] at this
    rw [← hw0]; exact this)
  have O0 := Lib.hid (show Own w0 (w.heap.size + 1) 2 1 (some ⟨w.heap.size + 1, 0, none⟩) 0 0 [] by
    have := ((Own.lit (w := w.alloc (.cells #[i64 0, i64 0, i64 0, .slice none 0 0, .slice none 0 0, .slice none 0 0] 29)) (e := 2) (Nat.le_refl _)).alloc (.cells #[] 2)).alloc (.cells #[i64 s, i64 0, i64 0, .slice none 0 0, .slice none 0 0, .slice none 0 0] 29)
    simp only [World.size_alloc] at this
    rw [← hw0]; exact this)
  have T0 := Lib.hid (show Own w0 (w.heap.size + 1) 2 1 (some ⟨w.heap.size + 1 + 1, 0, none⟩) 0 0 [] by
    have := (Own.lit (w := (w.alloc (.cells #[i64 0, i64 0, i64 0, .slice none 0 0, .slice none 0 0, .slice none 0 0] 29)).alloc (.cells #[] 2)) (e := 2) (B := w.heap.size + 1) (by simp)).alloc (.cells #[i64 s, i64 0, i64 0, .slice none 0 0, .slice none 0 0, .slice none 0 0] 29)
    simp only [World.size_alloc] at this
    rw [← hw0]; exact this)
  have F0 := Lib.hid (show Four w0 (w.heap.size + 1) (w.heap.size + 1 + 1 + 1 + 1) (some ⟨w.heap.size + 1, 0, none⟩) 0 0 [] (some ⟨w.heap.size + 1 + 1, 0, none⟩) 0 0 [] none 0 0 [] none 0 0 [] from
    ⟨OwnS.nil O0.out, OwnS.nil T0.out, OwnS.nil Own.nil, OwnS.nil Own.nil, (fun b h1 h2 => by
      rcases h1 with ⟨_, e1, e2⟩ | ⟨_, h, _⟩
      · injection e1 with e1; subst e1
        rcases h2 with ⟨_, g1, g2⟩ | ⟨_, h, _⟩
        · injection g1 with g1; subst g1; simp only at e2 g2; omega
        · cases h
      · cases h), fun b _ h => blks_nil h, fun b _ h => blks_nil h, fun b _ h => blks_nil h, fun b _ h => blks_nil h, fun b _ h => blks_nil h⟩)
  have hz0 : w0.heap.size = w.heap.size + 4 := by rw [← hw0]; simp
  simp only [i64] at hw0
  rw [hw0]
  clear hw0 O0 T0
  go_loopw [11, 12, 21] (fun av tv iv wr => ∃ (k : Nat) (bb : Bool) (O : Option Addr) (n c : Nat) (xs : List Int) (T : Option Addr) (n' c' : Nat) (ys : List Int) (A0 : Option Addr) (m0 d0 : Nat) (its0 : List It) (A1 : Option Addr) (m1 d1 : Nat) (its1 : List It),
    k ≤ np ∧ iv = .int .i64 k ∧ av = .slice O n c ∧ tv = .slice T n' c' ∧ k % 2 = (if bb then 0 else 1) ∧ n ≤ k * 100 ∧ n' ≤ k * 200 ∧ m0 ≤ k ∧ m1 ≤ k ∧ Hid (BnAt ps k bb xs ys (its0.map It.xs) (its1.map It.xs)) ∧ Hid (∀ t ∈ its0, t.n ≤ 100) ∧ Hid (∀ t ∈ its1, t.n ≤ 100) ∧
    Hid (Four wr (w.heap.size + 1) (w.heap.size + 1 + 1 + 1 + 1) O n c xs T n' c' ys A0 m0 d0 its0 A1 m1 d1 its1) ∧ Hid (Blk wr (w.heap.size + 1 + 1 + 1) 29 #[i64 s, i64 0, i64 0, .slice A0 m0 d0, .slice A1 m1 d1, .slice none 0 0]) ∧ Hid (Blk wr w.heap.size 29 #[i64 0, i64 0, i64 0, .slice none 0 0, .slice none 0 0, .slice none 0 0]) ∧ Below w.heap.size w wr ∧ w.heap.size + 4 ≤ wr.heap.size) (fun _ _ iv _ => np - (intOf iv).toNat)
  case atStart => exact ⟨0, true, _, 0, 0, [], _, 0, 0, [], none, 0, 0, [], none, 0, 0, [], by omega, rfl, rfl, rfl, rfl, by omega, by omega, by omega, by omega, BnAt.start, (fun t ht => by cases ht), (fun t ht => by cases ht), F0.out, G0.out, Z0.out, B0.out, by omega⟩
  case round =>
    clear F0 G0 Z0 B0 hz0
    obtain ⟨k, bb, O, n, c', xs, T, n', c2, ys, A0, m0, d0, its0, A1, m1, d1, its1, hk, rfl, rfl, rfl, hpar, hn1, hn2, hm0, hm1, hbn, hi0, hi1, hF, hG, hZ, hbw, hwz⟩ := hrel
    have HBW := Lib.hid hbw
    by_cases hlt : k < np
    · obtain ⟨ad, t, rfl, hab, ht, hct0, hrt0⟩ := RdII.at_ HP.out hlt
      have HT := Lib.hid hrt0.head
      have HTX := Lib.hid (show ps[k]? = some t.xs by rw [← HPS.out]; simp [ht])
      have htn := HI.out t (List.mem_of_getElem? ht)
      have hct := keepc hbw hct0
      have HCT := Lib.hid hct0
      clear hbw ht hrt0 hct0
      cases bb
      · have q1 : (k : Int).tmod 2 = 1 := by rw [Int.tmod_eq_emod_of_nonneg (by omega)]; simp only [Bool.false_eq_true, if_false] at hpar; omega
        go_wp2_with first
          | (at_builtin; refine wp_appA (by rfl) _ _ (by rfl) (w.heap.size + 1) O n c' (xs.map i64) (by rfl) (by exact hF.out.o.own) t.A t.n t.c t.xs (by rfl) (by exact RdI.below HT.out HBW.out) (by omega) (by omega) ?_; intro O2 oc2 w2 own2 hb2 hk2 hg2 hz2; rw [← List.map_append] at own2; have F2 := Lib.hid (hF.out.once own2 hk2 hg2 hz2); have G2 := Lib.hid (hG.out.of_block (hk2 _ hG.out.lt (fun ad' h => hF.out.o.own.ne_ hG.out (by decide) ad' h))); have Z2 := Lib.hid (hZ.out.below hb2 (by omega)); have B2 := Lib.hid (HBW.out.trans (hb2.mono (by omega))); clear own2 hb2 hk2 hg2)
          | (at_builtin; refine wp_appA (by rfl) _ _ (by rfl) (w.heap.size + 1) T n' c2 (ys.map i64) (by rfl) (by exact F2.out.t.own) t.A t.n t.c t.xs (by rfl) (by exact RdI.below HT.out B2.out) (by omega) (by omega) ?_; intro T3 tc3 w3 own3 hb3 hk3 hg3 hz3; rw [← List.map_append] at own3; have F3 := Lib.hid (F2.out.twice own3 hk3 hg3 hz3); have G3 := Lib.hid (G2.out.of_block (hk3 _ G2.out.lt (fun ad' h => F2.out.t.own.ne_ G2.out (by decide) ad' h))); have Z3 := Lib.hid (Z2.out.below hb3 (by omega)); have B3 := Lib.hid (B2.out.trans (hb3.mono (by omega))); clear own3 hb3 hk3 hg3)
          | (at_builtin; refine wp_appA (by rfl) _ _ (by rfl) (w.heap.size + 1) T3 (n' + t.n) tc3 ((ys ++ t.xs).map i64) (by rfl) (by exact F3.out.t.own) t.A t.n t.c t.xs (by rfl) (by exact RdI.below HT.out B3.out) (by omega) (by omega) ?_; intro T4 tc4 w4 own4 hb4 hk4 hg4 hz4; rw [← List.map_append] at own4; have F4 := Lib.hid (F3.out.twice own4 hk4 hg4 hz4); have G4 := Lib.hid (G3.out.of_block (hk4 _ G3.out.lt (fun ad' h => F3.out.t.own.ne_ G3.out (by decide) ad' h))); have Z4 := Lib.hid (Z3.out.below hb4 (by omega)); have B4 := Lib.hid (B3.out.trans (hb4.mono (by omega))); clear own4 hb4 hk4 hg4)
        have g3 := G4.out.cell 4
        simp at g3
        have x0 := Ext.cell g3
        refine Mix.wp_region_mix [0, 3, 0, 1, 1, 2, 0, 2] (fun w' => ∃ x : Ext w4, w' = x.w) (by kernel_rfl) (by kernel_rfl) (InExt.drew _) ?_
        repeat (first | (refine Mix.wpMix_read (by rfl) ?_; go_big_quiet_step (fail); refine wpQuiet_nil ?_) | (refine Mix.wpMix_pure (by rfl) ?_; go_big_quiet_step (fail); refine wpQuiet_nil ?_))
        refine Mix.wpMix_chg (by rfl) (fun K hK => ?_)
        go_wp2_with fail
        refine (cloneG_c t.A t.n t.c t.xs _ (by exact RdI.below HT.out (below_drew B4.out)) (by omega)).mono ?_
        rintro e w5 ⟨A4, q4, rfl, hwA, hbA⟩
        have E5 := Lib.hid (below_of_drew hbA); have W5 := Lib.hid (show Wr w5 w4.heap.size w5.heap.size A4 t.n (t.xs.map i64) from hwA)
        clear hwA hbA
        go_wp2_with fail
        refine hK _ _ ⟨⟨_, E5.out⟩, rfl⟩ ?_
        clear hK K
        repeat (first | (refine Mix.wpMix_read (by rfl) ?_; go_big_quiet_step (fail); refine wpQuiet_nil ?_) | (refine Mix.wpMix_pure (by rfl) ?_; go_big_quiet_step (fail); refine wpQuiet_nil ?_))
        refine Mix.wpMix_chg (by rfl) (fun K hK => ?_)
        go_wp2_with fail
        refine hK _ _ ⟨⟨_, below_chain E5.out E5.out.size (below_size.alloc (Nat.le_refl _) _)⟩, rfl⟩ ?_
        clear hK K
        obtain ⟨w6, hw6⟩ : ∃ w6, w5.alloc (.cells #[.slice A4 t.n q4] 25) = w6 := ⟨_, rfl⟩
        have E6 := Lib.hid (show Below w4.heap.size w4 w6 by rw [← hw6]; exact below_chain E5.out E5.out.size (below_size.alloc (Nat.le_refl _) _))
        have C6 := Lib.hid (show w6.cell? ⟨w5.heap.size, 0, none⟩ = some (.slice A4 t.n q4) by rw [← hw6]; exact new_cell _ _ _ 0)
        have W6 := Lib.hid (show Wr w6 w4.heap.size w6.heap.size A4 t.n (t.xs.map i64) by rw [← hw6]; exact (W5.out.alloc _).wider (Nat.le_refl _) (by simp))
        rw [hw6]
        have hzq : w4.heap.size ≤ w6.heap.size := E6.out.size
        clear hw6 x0 g3 W5 E5
        refine Mix.wpMix_tail (by rfl) (fun K hK => ?_)
        refine wp_app1 (by rfl) _ _ 27 25 (.slice none 0 0) 24 (by rfl) Try.underlying27 info_I64S4 rfl (w.heap.size + 1 + 1 + 1 + 1) A1 m1 d1 (its1.map hdI) (by rfl) (by exact (F4.out.keep E6.out).r.own) w5.heap.size (.slice A4 t.n q4) (by rfl) (by exact C6.out) rfl (by omega) (by omega) (by omega) ?_
        intro g' cap w7 own6 hb6 hk6 hg6 hz6
        have F7 := Lib.hid (F4.out.rep (i := ⟨A4, t.n, q4, t.xs⟩) (by omega) E6.out W6.out own6 hk6 hg6 hz6)
        have G7 := Lib.hid ((G4.out.keep E6.out).of_block (hk6 _ (G4.out.keep E6.out).lt (fun ad' h => (F4.out.keep E6.out).r.own.ne_ (G4.out.keep E6.out) (by decide) ad' h)))
        have Z7 := Lib.hid ((Z4.out.keep E6.out).below hb6 (by omega))
        have B7 := Lib.hid ((B4.out.trans (E6.out.mono (by omega))).trans (hb6.mono (by omega)))
        have g3 := G7.out.cell 4; have f3 := G7.out.frozen 4
        simp at g3
        clear own6 hb6 hk6 hg6
        go_wp2_with fail
        refine hK _ _ ?_
        clear hK K
        repeat (first | (refine Mix.wpMix_read (by rfl) ?_; go_big_quiet_step (fail); refine wpQuiet_nil ?_) | (refine Mix.wpMix_pure (by rfl) ?_; go_big_quiet_step (fail); refine wpQuiet_nil ?_))
        refine Mix.wpMix_tail (by rfl) (fun K hK => ?_)
        go_wp2_with fail
        refine hK _ _ ?_
        clear hK K
        (refine Mix.wpMix_nil ?_; try simp only [Exit.then])
        go_wp2_with fail
        go_roundw
        case rel =>
          refine ⟨k + 1, true, O2, n + t.n, oc2, xs ++ t.xs, T4, n' + t.n + t.n, tc4, ys ++ t.xs ++ t.xs, A0, m0, d0, its0, some ⟨g', 0, none⟩, m1 + 1, cap, its1 ++ [⟨A4, t.n, q4, t.xs⟩], by omega, by go_num, rfl, rfl, by simp only [Bool.false_eq_true, if_false] at hpar; simp only [if_true]; omega, by omega, by omega, by omega, by omega, ?_, hi0, ?_, ?_, ?_, Z7.out.far (by simp; omega) _, B7.out.setCell (by show _ ≤ w.heap.size + 1 + 1 + 1; omega) _, by simp; omega⟩
          · have := hbn.out.rep HTX.out
            unfold Hid
            rw [List.map_append]; exact this
          · intro u hu
            rcases List.mem_append.1 hu with hu | hu
            · exact hi1.out u hu
            · rw [List.mem_singleton] at hu; subst hu; exact htn
          · exact F7.out.setG G7.out (by omega) _ _
          · have := G7.out.set_ 4 (.slice (some ⟨g', 0, none⟩) (m1 + 1) cap)
            simpa [Hid] using this
        case measure => simp [intOf]; omega
      · have q1 : (k : Int).tmod 2 = 0 := by rw [Int.tmod_eq_emod_of_nonneg (by omega)]; simp only [if_true] at hpar; omega
        go_wp2_with first
          | (at_builtin; refine wp_appA (by rfl) _ _ (by rfl) (w.heap.size + 1) O n c' (xs.map i64) (by rfl) (by exact hF.out.o.own) t.A t.n t.c t.xs (by rfl) (by exact RdI.below HT.out HBW.out) (by omega) (by omega) ?_; intro O2 oc2 w2 own2 hb2 hk2 hg2 hz2; rw [← List.map_append] at own2; have F2 := Lib.hid (hF.out.once own2 hk2 hg2 hz2); have G2 := Lib.hid (hG.out.of_block (hk2 _ hG.out.lt (fun ad' h => hF.out.o.own.ne_ hG.out (by decide) ad' h))); have Z2 := Lib.hid (hZ.out.below hb2 (by omega)); have B2 := Lib.hid (HBW.out.trans (hb2.mono (by omega))); clear own2 hb2 hk2 hg2)
          | (at_builtin; refine wp_appA (by rfl) _ _ (by rfl) (w.heap.size + 1) T n' c2 (ys.map i64) (by rfl) (by exact F2.out.t.own) t.A t.n t.c t.xs (by rfl) (by exact RdI.below HT.out B2.out) (by omega) (by omega) ?_; intro T3 tc3 w3 own3 hb3 hk3 hg3 hz3; rw [← List.map_append] at own3; have F3 := Lib.hid (F2.out.twice own3 hk3 hg3 hz3); have G3 := Lib.hid (G2.out.of_block (hk3 _ G2.out.lt (fun ad' h => F2.out.t.own.ne_ G2.out (by decide) ad' h))); have Z3 := Lib.hid (Z2.out.below hb3 (by omega)); have B3 := Lib.hid (B2.out.trans (hb3.mono (by omega))); clear own3 hb3 hk3 hg3)
        have g3 := G3.out.cell 3
        simp at g3
        have x0 := Ext.cell g3
        refine Mix.wp_region_mix [0, 3, 0, 1, 1, 2, 0, 2] (fun w' => ∃ x : Ext w3, w' = x.w) (by kernel_rfl) (by kernel_rfl) (InExt.drew _) ?_
        repeat (first | (refine Mix.wpMix_read (by rfl) ?_; go_big_quiet_step (fail); refine wpQuiet_nil ?_) | (refine Mix.wpMix_pure (by rfl) ?_; go_big_quiet_step (fail); refine wpQuiet_nil ?_))
        refine Mix.wpMix_chg (by rfl) (fun K hK => ?_)
        go_wp2_with fail
        refine (cloneG_c t.A t.n t.c t.xs _ (by exact RdI.below HT.out (below_drew B3.out)) (by omega)).mono ?_
        rintro e w4 ⟨A4, q4, rfl, hwA, hbA⟩
        have E4 := Lib.hid (below_of_drew hbA); have W4 := Lib.hid (show Wr w4 w3.heap.size w4.heap.size A4 t.n (t.xs.map i64) from hwA)
        clear hwA hbA
        go_wp2_with fail
        refine hK _ _ ⟨⟨_, E4.out⟩, rfl⟩ ?_
        clear hK K
        repeat (first | (refine Mix.wpMix_read (by rfl) ?_; go_big_quiet_step (fail); refine wpQuiet_nil ?_) | (refine Mix.wpMix_pure (by rfl) ?_; go_big_quiet_step (fail); refine wpQuiet_nil ?_))
        refine Mix.wpMix_chg (by rfl) (fun K hK => ?_)
        go_wp2_with fail
        refine hK _ _ ⟨⟨_, below_chain E4.out E4.out.size (below_size.alloc (Nat.le_refl _) _)⟩, rfl⟩ ?_
        clear hK K
        obtain ⟨w5, hw5⟩ : ∃ w5, w4.alloc (.cells #[.slice A4 t.n q4] 25) = w5 := ⟨_, rfl⟩
        have E5 := Lib.hid (show Below w3.heap.size w3 w5 by rw [← hw5]; exact below_chain E4.out E4.out.size (below_size.alloc (Nat.le_refl _) _))
        have C5 := Lib.hid (show w5.cell? ⟨w4.heap.size, 0, none⟩ = some (.slice A4 t.n q4) by rw [← hw5]; exact new_cell _ _ _ 0)
        have W5 := Lib.hid (show Wr w5 w3.heap.size w5.heap.size A4 t.n (t.xs.map i64) by rw [← hw5]; exact (W4.out.alloc _).wider (Nat.le_refl _) (by simp))
        rw [hw5]
        have hzq : w3.heap.size ≤ w5.heap.size := E5.out.size
        clear hw5 x0 g3 W4 E4
        refine Mix.wpMix_tail (by rfl) (fun K hK => ?_)
        refine wp_app1 (by rfl) _ _ 27 25 (.slice none 0 0) 24 (by rfl) Try.underlying27 info_I64S4 rfl (w.heap.size + 1 + 1 + 1 + 1) A0 m0 d0 (its0.map hdI) (by rfl) (by exact (F3.out.keep E5.out).a.own) w4.heap.size (.slice A4 t.n q4) (by rfl) (by exact C5.out) rfl (by omega) (by omega) (by omega) ?_
        intro g' cap w6 own6 hb6 hk6 hg6 hz6
        have F6 := Lib.hid (F3.out.wall (i := ⟨A4, t.n, q4, t.xs⟩) (by omega) E5.out W5.out own6 hk6 hg6 hz6)
        have G6 := Lib.hid ((G3.out.keep E5.out).of_block (hk6 _ (G3.out.keep E5.out).lt (fun ad' h => (F3.out.keep E5.out).a.own.ne_ (G3.out.keep E5.out) (by decide) ad' h)))
        have Z6 := Lib.hid ((Z3.out.keep E5.out).below hb6 (by omega))
        have B6 := Lib.hid ((B3.out.trans (E5.out.mono (by omega))).trans (hb6.mono (by omega)))
        have g3 := G6.out.cell 3; have f3 := G6.out.frozen 3
        simp at g3
        clear own6 hb6 hk6 hg6
        go_wp2_with fail
        refine hK _ _ ?_
        clear hK K
        repeat (first | (refine Mix.wpMix_read (by rfl) ?_; go_big_quiet_step (fail); refine wpQuiet_nil ?_) | (refine Mix.wpMix_pure (by rfl) ?_; go_big_quiet_step (fail); refine wpQuiet_nil ?_))
        refine Mix.wpMix_tail (by rfl) (fun K hK => ?_)
        go_wp2_with fail
        refine hK _ _ ?_
        clear hK K
        (refine Mix.wpMix_nil ?_; try simp only [Exit.then])
        go_wp2_with fail
        go_roundw
        case rel =>
          refine ⟨k + 1, false, O2, n + t.n, oc2, xs ++ t.xs, T3, n' + t.n, tc3, ys ++ t.xs, some ⟨g', 0, none⟩, m0 + 1, cap, its0 ++ [⟨A4, t.n, q4, t.xs⟩], A1, m1, d1, its1, by omega, by go_num, rfl, rfl, by simp only [if_true] at hpar; simp only [Bool.false_eq_true, if_false]; omega, by omega, by omega, by omega, by omega, ?_, ?_, hi1, ?_, ?_, Z6.out.far (by simp; omega) _, B6.out.setCell (by show _ ≤ w.heap.size + 1 + 1 + 1; omega) _, by simp; omega⟩
          · have := hbn.out.wall HTX.out
            unfold Hid
            rw [List.map_append]; exact this
          · intro u hu
            rcases List.mem_append.1 hu with hu | hu
            · exact hi0.out u hu
            · rw [List.mem_singleton] at hu; subst hu; exact htn
          · exact F6.out.setG G6.out (by omega) _ _
          · have := G6.out.set_ 3 (.slice (some ⟨g', 0, none⟩) (m0 + 1) cap)
            simpa [Hid] using this
        case measure => simp [intOf]; omega
    · have hlen : ps.length = np := by rw [← HPS.out, List.length_map]; exact HLP.out
      obtain ⟨d1', d2', d3', d4'⟩ := hbn.out.done (show ps.length ≤ k by rw [hlen]; omega)
      have l0 : its0.length = m0 := by have := hF.out.a.own.len; simpa using this
      have l1 : its1.length = m1 := by have := hF.out.r.own.len; simpa using this
      have hm01 : m0 = m1 + 1 := by have := HWR.out; rw [d3', d4', List.length_map, List.length_map, l0, l1] at this; exact this
      subst hm01
      have HD := Lib.hid (And.intro d1' (And.intro d2' (And.intro d3' d4')))
      have HL0 := Lib.hid l0; have HL1 := Lib.hid l1
      clear d1' d2' d3' d4' l0 l1 hlen hbw
      obtain ⟨ad0, v, rfl, hab0, hv, hcv⟩ := hF.out.a.own.wr.rd.at_ (k := m1) (by omega)
      rw [List.getElem?_map] at hv
      obtain ⟨t, ht, rfl⟩ := Option.map_eq_some_iff.1 hv
      have HT := Lib.hid ht
      have htn : t.n ≤ 100 := hi0.out t (List.mem_of_getElem? ht)
      have g0 := hG.out.cell 0; have g1 := hG.out.cell 1; have g2 := hG.out.cell 2; have g3 := hG.out.cell 3; have g4 := hG.out.cell 4; have g5 := hG.out.cell 5
      simp at g0 g1 g2 g3 g4 g5
      have hcv2 : wr.cell? (ad0.add m1) = some (.slice t.A t.n t.c) := hcv
      have x0 := Ext.cell g0; have x1 := Ext.cell g1; have x2 := Ext.cell g2; have x3 := Ext.cell g3; have x4 := Ext.cell g4; have x5 := Ext.cell g5; have x6 := Ext.cell hcv2
      clear ht hv hcv hcv2
      go_wp2_with fail
      refine Mix.wp_region_mix [3, 1, 0, 3, 3, 1, 0, 3, 1, 0, 0, 2, 0, 2] (fun w' => ∃ x : Ext wr, w' = x.w) (by kernel_rfl) (by kernel_rfl) (InExt.drew _) ?_
      repeat (first | (refine Mix.wpMix_read (by rfl) ?_; go_big_quiet_step (fail); refine wpQuiet_nil ?_) | (refine Mix.wpMix_pure (by rfl) ?_; go_big_quiet_step (fail); refine wpQuiet_nil ?_))
      refine Mix.wpMix_chg (by rfl) (fun K hK => ?_)
      go_wp2_with fail
      refine (last_c s 0 0 (some ad0) (m1 + 1) d0 A1 m1 d1 none 0 0 _ (by omega)).mono ?_
      rintro e w2 ⟨rfl, hb2⟩
      rw [show (((m1 + 1 : Nat) : Int) - 1) = (m1 : Int) by omega]
      have E2 := Lib.hid (below_of_drew hb2)
      clear hb2
      go_wp2_with fail
      refine hK _ _ ⟨⟨_, E2.out⟩, rfl⟩ ?_
      clear hK K
      repeat (first | (refine Mix.wpMix_read (by rfl) ?_; go_big_quiet_step (fail); refine wpQuiet_nil ?_) | (refine Mix.wpMix_pure (by rfl) ?_; go_big_quiet_step (fail); refine wpQuiet_nil ?_))
      refine Mix.wpMix_chg (by rfl) (fun K hK => ?_)
      go_wp2_with fail
      refine (last_c s 0 0 (some ad0) (m1 + 1) d0 A1 m1 d1 none 0 0 _ (by omega)).mono ?_
      rintro e w3 ⟨rfl, hb3⟩
      rw [show (((m1 + 1 : Nat) : Int) - 1) = (m1 : Int) by omega]
      have E3 := Lib.hid (below_chain E2.out E2.out.size hb3)
      clear hb3
      go_wp2_with fail
      refine hK _ _ ⟨⟨_, E3.out⟩, rfl⟩ ?_
      clear hK K
      repeat (first | (refine Mix.wpMix_read (by rfl) ?_; go_big_quiet_step (fail); refine wpQuiet_nil ?_) | (refine Mix.wpMix_pure (by rfl) ?_; go_big_quiet_step (fail); refine wpQuiet_nil ?_))
      refine Mix.wpMix_chg (by rfl) (fun K hK => ?_)
      go_wp2_with fail
      refine (sizeI_c t.A t.n t.c _ (by omega)).mono ?_
      rintro e w4 ⟨rfl, rfl⟩
      go_wp2_with fail
      refine hK _ _ ⟨⟨_, E3.out⟩, rfl⟩ ?_
      clear hK K
      have v1 : IntKind.i64.wrap ((t.n : Int) - 1) = (t.n : Int) - 1 := IntWalk.i64_in _ (by omega)
      repeat (first | (refine Mix.wpMix_read (by rfl) ?_; go_big_quiet_step (fail); refine wpQuiet_nil ?_) | (refine Mix.wpMix_pure (by rfl) ?_; go_big_quiet_step (fail); refine wpQuiet_nil ?_))
      have F3 := Lib.hid (hF.out.keep E3.out)
      have G3 := Lib.hid (hG.out.keep E3.out)
      have Z3 := Lib.hid (hZ.out.keep E3.out)
      have B3 := Lib.hid (HBW.out.trans (E3.out.mono HBW.out.size))
      have hz3 : wr.heap.size ≤ w3.heap.size := E3.out.size
      clear x0 x1 x2 x3 x4 x5 x6 g0 g1 g2 g3 g4 g5
      have g1 := G3.out.cell 1; have f1 := G3.out.frozen 1; have g2 := G3.out.cell 2; have f2 := G3.out.frozen 2
      simp at g1 g2
      refine Mix.wpMix_tail (by rfl) (fun K hK => ?_)
      go_wp2_with fail
      refine hK _ _ ?_
      clear hK K
      repeat (first | (refine Mix.wpMix_read (by rfl) ?_; go_big_quiet_step (fail); refine wpQuiet_nil ?_) | (refine Mix.wpMix_pure (by rfl) ?_; go_big_quiet_step (fail); refine wpQuiet_nil ?_))
      refine Mix.wpMix_tail (by rfl) (fun K hK => ?_)
      go_wp2_with fail
      refine hK _ _ ?_
      clear hK K
      (refine Mix.wpMix_nil ?_; try simp only [Exit.then])
      clear g1 g2 f1 f2
      have G5 := Lib.hid (show Blk ((w3.setCell ⟨w.heap.size + 1 + 1 + 1, 1, none⟩ (i64 m1)).setCell ⟨w.heap.size + 1 + 1 + 1, 2, none⟩ (i64 ((t.n : Int) - 1))) (w.heap.size + 1 + 1 + 1) 29 #[i64 s, i64 m1, i64 ((t.n : Int) - 1), .slice (some ad0) (m1 + 1) d0, .slice A1 m1 d1, .slice none 0 0] by
        have := (G3.out.set_ 1 (i64 m1)).set_ 2 (i64 ((t.n : Int) - 1))
        simpa using this)
      have F5 := Lib.hid ((F3.out.setG G3.out (by omega) 1 (i64 m1)).setG (G3.out.set_ 1 (i64 m1)) (by omega) 2 (i64 ((t.n : Int) - 1)))
      have Z5 := Lib.hid ((Z3.out.far (p := ⟨w.heap.size + 1 + 1 + 1, 1, none⟩) (by simp; omega) (i64 m1)).far (p := ⟨w.heap.size + 1 + 1 + 1, 2, none⟩) (by simp; omega) (i64 ((t.n : Int) - 1)))
      have B5 := Lib.hid ((B3.out.setCell (p := ⟨w.heap.size + 1 + 1 + 1, 1, none⟩) (by show _ ≤ w.heap.size + 1 + 1 + 1; omega) (i64 m1)).setCell (p := ⟨w.heap.size + 1 + 1 + 1, 2, none⟩) (by show _ ≤ w.heap.size + 1 + 1 + 1; omega) (i64 ((t.n : Int) - 1)))
      have hz5 : w.heap.size + 4 ≤ ((w3.setCell ⟨w.heap.size + 1 + 1 + 1, 1, none⟩ (i64 m1)).setCell ⟨w.heap.size + 1 + 1 + 1, 2, none⟩ (i64 ((t.n : Int) - 1))).heap.size := by simp; omega
      obtain ⟨w5, hw5⟩ : ∃ w5, (w3.setCell ⟨w.heap.size + 1 + 1 + 1, 1, none⟩ (i64 m1)).setCell ⟨w.heap.size + 1 + 1 + 1, 2, none⟩ (i64 ((t.n : Int) - 1)) = w5 := ⟨_, rfl⟩
      rw [hw5] at G5 F5 Z5 B5 hz5
      simp only [i64] at hw5
      rw [hw5]
      clear hw5 F3 G3 Z3 B3 E2 E3 hz3
      have hmk : ∀ w, (Instr.makeSlice 25 (.int .i64 m1) (.int .i64 m1)).run Try.prog w = .ok (.slice (some ⟨w.heap.size, 0, none⟩) m1 m1) (w.alloc (.cells (Array.replicate m1 (.int .i64 0)) 2)) := fun w => run_mk (P := Try.prog) 25 2 (.int .i64 0) 8 Try.underlying25 info_i64 rfl .i64 .i64 m1 m1 (Nat.le_refl _) (by omega) (by omega) w
      have g4 := G5.out.cell 4
      have bz := (G5.out.alloc (.cells (Array.replicate m1 (.int .i64 0)) 2))
      have g5 := bz.cell 5; have f5 := bz.frozen 5
      simp at g4 g5
      clear bz
      go_wp2_with fail
      have GA := G5.out.alloc (.cells (Array.replicate m1 (i64 0)) 2)
      have G6 := Lib.hid (show Blk ((w5.alloc (.cells (Array.replicate m1 (i64 0)) 2)).setCell ⟨w.heap.size + 1 + 1 + 1, 5, none⟩ (.slice (some ⟨w5.heap.size, 0, none⟩) m1 m1)) (w.heap.size + 1 + 1 + 1) 29 #[i64 s, i64 m1, i64 ((t.n : Int) - 1), .slice (some ad0) (m1 + 1) d0, .slice A1 m1 d1, .slice (some ⟨w5.heap.size, 0, none⟩) m1 m1] by
        have := GA.set_ 5 (.slice (some ⟨w5.heap.size, 0, none⟩) m1 m1)
        simpa using this)
      have EA : Below w5.heap.size w5 (w5.alloc (.cells (Array.replicate m1 (i64 0)) 2)) := below_size.alloc (Nat.le_refl _) _
      have F6 := Lib.hid ((F5.out.keep EA).setG GA (by omega) 5 (.slice (some ⟨w5.heap.size, 0, none⟩) m1 m1))
      have Z6 := Lib.hid ((Z5.out.keep EA).far (p := ⟨w.heap.size + 1 + 1 + 1, 5, none⟩) (by simp; omega) (.slice (some ⟨w5.heap.size, 0, none⟩) m1 m1))
      have B6 := Lib.hid ((B5.out.trans (EA.mono (by omega))).setCell (p := ⟨w.heap.size + 1 + 1 + 1, 5, none⟩) (by show _ ≤ w.heap.size + 1 + 1 + 1; omega) (.slice (some ⟨w5.heap.size, 0, none⟩) m1 m1))
      have R6 := Lib.hid (show Wr ((w5.alloc (.cells (Array.replicate m1 (i64 0)) 2)).setCell ⟨w.heap.size + 1 + 1 + 1, 5, none⟩ (.slice (some ⟨w5.heap.size, 0, none⟩) m1 m1)) w5.heap.size (w5.heap.size + 1) (some ⟨w5.heap.size, 0, none⟩) m1 ((List.replicate m1 (0 : Int)).map i64) from
        ((Blk.new w5 2 (Array.replicate m1 (i64 0))).wr (Nat.le_refl _) (Nat.lt_succ_self _) (by simp) (by simp)).set_far (.inl (by show w.heap.size + 1 + 1 + 1 < _; omega)) _)
      have hs6 : ((w5.alloc (.cells (Array.replicate m1 (i64 0)) 2)).setCell ⟨w.heap.size + 1 + 1 + 1, 5, none⟩ (.slice (some ⟨w5.heap.size, 0, none⟩) m1 m1)).heap.size ≥ w5.heap.size + 1 := by simp
      have S5 := F5.out.a.both F5.out.r F5.out.ar
      have S6 := Lib.hid (show WrS ((w5.alloc (.cells (Array.replicate m1 (i64 0)) 2)).setCell ⟨w.heap.size + 1 + 1 + 1, 5, none⟩ (.slice (some ⟨w5.heap.size, 0, none⟩) m1 m1)) w.heap.size ((w5.alloc (.cells (Array.replicate m1 (i64 0)) 2)).setCell ⟨w.heap.size + 1 + 1 + 1, 5, none⟩ (.slice (some ⟨w5.heap.size, 0, none⟩) m1 m1)).heap.size (sgII (some ad0) (m1 + 1) its0 ++ sgII A1 m1 its1 ++ [sgI (some ⟨w5.heap.size, 0, none⟩) m1 (List.replicate m1 0)]) by
        have h1 := (S5.below EA).set_far (p := ⟨w.heap.size + 1 + 1 + 1, 5, none⟩) (.inl (by show w.heap.size + 1 + 1 + 1 < w.heap.size + 1 + 1 + 1 + 1; omega)) (.slice (some ⟨w5.heap.size, 0, none⟩) m1 m1)
        have h2 := h1.append (WrS.one R6.out) (by omega) (by omega)
        simp only [Nat.mul_one] at h2
        exact h2.wider (by omega) hs6)
      have NE := Lib.hid (show ∀ u ∈ (sgII (some ad0) (m1 + 1) its0 ++ sgII A1 m1 its1 ++ [sgI (some ⟨w5.heap.size, 0, none⟩) m1 (List.replicate m1 0)]), ∀ ad : Addr, 0 < u.n → u.A = some ad → ad.block ≠ w.heap.size by
        have h1 := (S5.below EA).set_far (p := ⟨w.heap.size + 1 + 1 + 1, 5, none⟩) (.inl (by show w.heap.size + 1 + 1 + 1 < w.heap.size + 1 + 1 + 1 + 1; omega)) (.slice (some ⟨w5.heap.size, 0, none⟩) m1 m1)
        have h2 := h1.append (WrS.one R6.out) (by omega) (by omega)
        simp only [Nat.mul_one] at h2
        intro u hu ad hn ea
        obtain ⟨a', e', g1, _⟩ := (h2.each u hu).2 hn
        rw [ea] at e'; injection e' with e'; subst e'; omega)
      obtain ⟨w6, hw6⟩ : ∃ w6, (w5.alloc (.cells (Array.replicate m1 (i64 0)) 2)).setCell ⟨w.heap.size + 1 + 1 + 1, 5, none⟩ (.slice (some ⟨w5.heap.size, 0, none⟩) m1 m1) = w6 := ⟨_, rfl⟩
      rw [hw6] at G6 F6 Z6 B6 S6
      simp only [i64] at hw6
      rw [hw6]
      clear hw6 GA EA F5 G5 Z5 B5 S5 R6 hs6 hmk g4 g5 f5
      have FIN := Lib.hid (show ∀ w' q, WrS w' w.heap.size w'.heap.size (sgII (some ad0) (m1 + 1) its0 ++ sgII A1 m1 its1 ++ [sgI (some ⟨w5.heap.size, 0, none⟩) m1 (List.replicate m1 0)]) → Below w.heap.size w w' → q = (decide (oneP ps = b) && decide (dblP true ps = c)) →
          BnOut s ps b c w (.returned (.tuple #[.agg #[i64 s, i64 m1, i64 ((t.n : Int) - 1), .slice (some ad0) (m1 + 1) d0, .slice A1 m1 d1, .slice (some ⟨w5.heap.size, 0, none⟩) m1 m1], .bool q])) w' from fun w' q hS hB hq => by
        obtain ⟨_, _, e3, e4⟩ := HD.out
        have e5 : (repsP true ps).length = m1 := by rw [e4, List.length_map]; exact HL1.out
        have htx : t.xs.length = t.n := RdII.size (w := w') (A := some ad0) (n := m1 + 1) (its := its0) hS.rd.left.left (List.mem_of_getElem? HT.out)
        have e6 : ((wallsP true ps).getD m1 []).length = t.n := by rw [e3, List.getD_eq_getElem?_getD, List.getElem?_map, HT.out]; exact htx
        refine ⟨some ad0, m1 + 1, d0, its0, A1, m1, d1, its1, some ⟨w5.heap.size, 0, none⟩, m1, m1, ?_, ⟨?_, by simp only [formF, partsF]; exact e3.symm, by simp only [formF, partsF]; exact e4.symm, by omega, by omega, by omega, fun t ht => by have := hi0.out t ht; omega, fun t ht => by have := hi1.out t ht; omega⟩, hB⟩
        · rw [hq]
          simp only [formF, partsF, e5, e6]
        · simp only [formF, partsF, e5]; exact hS)
      obtain ⟨q1, h1⟩ : ∃ q, eqL xs b = q := ⟨_, rfl⟩
      obtain ⟨q2, h2⟩ : ∃ q, eqL ys c = q := ⟨_, rfl⟩
      have HQ := Lib.hid (show (q1 && q2) = (decide (oneP ps = b) && decide (dblP true ps = c)) by obtain ⟨e1, e2, _⟩ := HD.out; rw [← h1, ← h2, e1, e2]; rfl)
      have HQ1 := Lib.hid (fun n => equalI_c O B n nb c' cb xs b)
      have g0 := G6.out.cell 0; have g1 := G6.out.cell 1; have g2 := G6.out.cell 2; have g3 := G6.out.cell 3; have g4 := G6.out.cell 4; have g5 := G6.out.cell 5
      have z0 := Z6.out.cell 0; have z1 := Z6.out.cell 1; have z2 := Z6.out.cell 2; have z3 := Z6.out.cell 3; have z4 := Z6.out.cell 4; have z5 := Z6.out.cell 5
      simp at g0 g1 g2 g3 g4 g5 z0 z1 z2 z3 z4 z5
      have x0 := Ext.cell g0; have x1 := Ext.cell g1; have x2 := Ext.cell g2; have x3 := Ext.cell g3; have x4 := Ext.cell g4; have x5 := Ext.cell g5
      have H1 := Lib.hid h1; have H2 := Lib.hid h2
      clear h1 h2 HQ1
      cases q1
      · refine Mix.wp_region_mix [3, 0, 0, 1, 0, 0, 0, 1, 0, 2, 0] (fun w' => ∃ x : Ext w6, w' = x.w) (by kernel_rfl) (by kernel_rfl) (InExt.drew _) ?_
        repeat (first | (refine Mix.wpMix_read (by rfl) ?_; go_big_quiet_step (fail); refine wpQuiet_nil ?_) | (refine Mix.wpMix_pure (by rfl) ?_; go_big_quiet_step (fail); refine wpQuiet_nil ?_))
        refine Mix.wpMix_chg (by rfl) (fun K hK => ?_)
        go_wp2_with fail
        refine (equalI_c O B n nb c' cb xs b _ (by exact F6.out.o.own.wr.rdI) (by exact RdI.below HB.out (below_drew B6.out)) (by omega)).mono ?_
        rw [H1.out]
        rintro e w7 ⟨rfl, hq7⟩
        have E7 := Lib.hid (below_of_drew (hq7.below w6.drew.heap.size))
        clear hq7
        go_wp2_with fail
        refine hK _ _ ⟨⟨_, E7.out⟩, rfl⟩ ?_
        clear hK K
        repeat (first | (refine Mix.wpMix_read (by rfl) ?_; go_big_quiet_step (fail); refine wpQuiet_nil ?_) | (refine Mix.wpMix_pure (by rfl) ?_; go_big_quiet_step (fail); refine wpQuiet_nil ?_))
        refine Mix.wpMix_skip (by rfl) ?_
        simp only [Act.put, List.setIfInBounds_toArray, List.set_cons_succ, List.set_cons_zero]
        repeat (first | (refine Mix.wpMix_read (by rfl) ?_; go_big_quiet_step (fail); refine wpQuiet_nil ?_) | (refine Mix.wpMix_pure (by rfl) ?_; go_big_quiet_step (fail); refine wpQuiet_nil ?_))
        have Z7 := Lib.hid (Z6.out.keep E7.out)
        clear z0 z1 z2 z3 z4 z5 x0 x1 x2 x3 x4 x5
        have z0 := Z7.out.cell 0; have z1 := Z7.out.cell 1; have z2 := Z7.out.cell 2; have z3 := Z7.out.cell 3; have z4 := Z7.out.cell 4; have z5 := Z7.out.cell 5
        have k0 := Z7.out.frozen 0; have k1 := Z7.out.frozen 1; have k2 := Z7.out.frozen 2; have k3 := Z7.out.frozen 3; have k4 := Z7.out.frozen 4; have k5 := Z7.out.frozen 5
        simp at z0 z1 z2 z3 z4 z5
        refine Mix.wpMix_tail (by rfl) (fun K hK => ?_)
        go_wp2_with fail
        refine hK _ _ ?_
        clear hK K
        repeat (first | (refine Mix.wpMix_read (by rfl) ?_; go_big_quiet_step (fail); refine wpQuiet_nil ?_) | (refine Mix.wpMix_pure (by rfl) ?_; go_big_quiet_step (fail); refine wpQuiet_nil ?_))
        (refine Mix.wpMix_nil ?_; try simp only [Exit.then])
        go_wp2_with fail
        refine bodyPost_ret (v := .tuple #[.agg #[i64 s, i64 m1, i64 ((t.n : Int) - 1), .slice (some ad0) (m1 + 1) d0, .slice A1 m1 d1, .slice (some ⟨w5.heap.size, 0, none⟩) m1 m1], .bool false]) (by simp [results, Try.results93, go_sem, z0, z1, z2, z3, z4, z5]) rfl ?_
        refine FIN.out _ _ ?_ (below_set6 (B6.out.trans (E7.out.mono B6.out.size)) (Nat.le_refl _)) HQ.out
        have h1 := S6.out.below E7.out
        have h2 := E7.out.size
        refine WrS.wider (lo := w.heap.size) (hi := w6.heap.size) ?_ (Nat.le_refl _) (by simpa using h2)
        refine ⟨fun u hu => ?_, h1.apart⟩
        have h3 := h1.each u hu
        exact h3.move (fun ad hn ea => by
          have hne : ad.block ≠ w.heap.size := NE.out u hu ad hn ea
          have hk : ∀ (w' : World) (i : Nat) (v : Value), (w'.setCell ⟨w.heap.size, i, none⟩ v).heap[ad.block]? = w'.heap[ad.block]? := fun w' i v => Below.heap_setCell w' _ v _ hne
          rw [hk, hk, hk, hk, hk, hk]) (by simp) (Nat.le_refl _)
      · refine Mix.wp_region_mix [3, 0, 0, 1, 0, 0, 0, 1, 0, 2, 0] (fun w' => ∃ x : Ext w6, w' = x.w) (by kernel_rfl) (by kernel_rfl) (InExt.drew _) ?_
        repeat (first | (refine Mix.wpMix_read (by rfl) ?_; go_big_quiet_step (fail); refine wpQuiet_nil ?_) | (refine Mix.wpMix_pure (by rfl) ?_; go_big_quiet_step (fail); refine wpQuiet_nil ?_))
        refine Mix.wpMix_chg (by rfl) (fun K hK => ?_)
        go_wp2_with fail
        refine (equalI_c O B n nb c' cb xs b _ (by exact F6.out.o.own.wr.rdI) (by exact RdI.below HB.out (below_drew B6.out)) (by omega)).mono ?_
        rw [H1.out]
        rintro e w7 ⟨rfl, hq7⟩
        have E7 := Lib.hid (below_of_drew (hq7.below w6.drew.heap.size))
        clear hq7
        go_wp2_with fail
        refine hK _ _ ⟨⟨_, E7.out⟩, rfl⟩ ?_
        clear hK K
        repeat (first | (refine Mix.wpMix_read (by rfl) ?_; go_big_quiet_step (fail); refine wpQuiet_nil ?_) | (refine Mix.wpMix_pure (by rfl) ?_; go_big_quiet_step (fail); refine wpQuiet_nil ?_))
        refine Mix.wpMix_chg (by rfl) (fun K hK => ?_)
        go_wp2_with fail
        refine (equalI_c T C n' nc c2 cc ys c _ (by exact (F6.out.keep E7.out).t.own.wr.rdI) (by exact RdI.below HC.out (B6.out.trans (E7.out.mono B6.out.size))) (by omega)).mono ?_
        rw [H2.out]
        rintro e w8 ⟨rfl, hq8⟩
        have E8 := Lib.hid (below_chain E7.out E7.out.size (hq8.below w7.heap.size))
        clear hq8
        go_wp2_with fail
        refine hK _ _ ⟨⟨_, E8.out⟩, rfl⟩ ?_
        clear hK K
        repeat (first | (refine Mix.wpMix_read (by rfl) ?_; go_big_quiet_step (fail); refine wpQuiet_nil ?_) | (refine Mix.wpMix_pure (by rfl) ?_; go_big_quiet_step (fail); refine wpQuiet_nil ?_))
        have Z8 := Lib.hid (Z6.out.keep E8.out)
        clear z0 z1 z2 z3 z4 z5 x0 x1 x2 x3 x4 x5
        have z0 := Z8.out.cell 0; have z1 := Z8.out.cell 1; have z2 := Z8.out.cell 2; have z3 := Z8.out.cell 3; have z4 := Z8.out.cell 4; have z5 := Z8.out.cell 5
        have k0 := Z8.out.frozen 0; have k1 := Z8.out.frozen 1; have k2 := Z8.out.frozen 2; have k3 := Z8.out.frozen 3; have k4 := Z8.out.frozen 4; have k5 := Z8.out.frozen 5
        simp at z0 z1 z2 z3 z4 z5
        refine Mix.wpMix_tail (by rfl) (fun K hK => ?_)
        go_wp2_with fail
        refine hK _ _ ?_
        clear hK K
        repeat (first | (refine Mix.wpMix_read (by rfl) ?_; go_big_quiet_step (fail); refine wpQuiet_nil ?_) | (refine Mix.wpMix_pure (by rfl) ?_; go_big_quiet_step (fail); refine wpQuiet_nil ?_))
        (refine Mix.wpMix_nil ?_; try simp only [Exit.then])
        go_wp2_with fail
        refine bodyPost_ret (v := .tuple #[.agg #[i64 s, i64 m1, i64 ((t.n : Int) - 1), .slice (some ad0) (m1 + 1) d0, .slice A1 m1 d1, .slice (some ⟨w5.heap.size, 0, none⟩) m1 m1], .bool q2]) (by simp [results, Try.results93, go_sem, z0, z1, z2, z3, z4, z5]) rfl ?_
        refine FIN.out _ _ ?_ (below_set6 (B6.out.trans (E8.out.mono B6.out.size)) (Nat.le_refl _)) (by have := HQ.out; rw [Bool.true_and] at this; exact this)
        have h1 := S6.out.below E8.out
        have h2 := E8.out.size
        refine WrS.wider (lo := w.heap.size) (hi := w6.heap.size) ?_ (Nat.le_refl _) (by simpa using h2)
        refine ⟨fun u hu => ?_, h1.apart⟩
        have h3 := h1.each u hu
        exact h3.move (fun ad hn ea => by
          have hne : ad.block ≠ w.heap.size := NE.out u hu ad hn ea
          have hk : ∀ (w' : World) (i : Nat) (v : Value), (w'.setCell ⟨w.heap.size, i, none⟩ v).heap[ad.block]? = w'.heap[ad.block]? := fun w' i v => Below.heap_setCell w' _ v _ hne
          rw [hk, hk, hk, hk, hk, hk]) (by simp) (Nat.le_refl _)
end Go.Proofs.Ytmmgejnhfpfmnaa
