/-
  Parts of the proof, one behind the other: contracts of the functions that the law reaches, and plain laws.
-/
import Derived.Test.YtebjpmmgdkepjaaGreatDoorLot27
import Derived.Test.YtebjpmmgdkepjaaGreatDoorLot28
/-
  Functions as terms: the program's body of a function's term.
-/
namespace Go.Proofs.YtebjpmmgdkepjaaGreatDoor
open Go.RowKit
open FTr

/-- a term that is there -/
def RdOut (T : LT) (w : World) (e : Ending) (w' : World) : Prop := ∃ A c, e = .returned (.slice A T.length c) ∧ Rd2 w' A T.length T ∧ Below w.heap.size w w'
theorem vsLm_tail (n w : Nat) : (vsLm n 0 w).drop 1 = vsLm n 1 w := by
  apply List.ext_getElem?
  intro k
  rw [List.getElem?_drop]
  by_cases h : k < n - 1
  · rw [vsLm_at (by omega), vsLm_at (by omega)]; congr 2; omega
  · rw [List.getElem?_eq_none (by rw [vsLm_len]; omega), List.getElem?_eq_none (by rw [vsLm_len]; omega)]
theorem RdV.tail1 {w : World} {k g n : Nat} {its : List ItV} (h : RdV w k (some ⟨g, 0, none⟩) n its) : RdV w k (some ⟨g, 1, none⟩) (n - 1) (its.drop 1) := by
  obtain ⟨hl, hc⟩ := h.head
  rw [List.length_map] at hl
  refine ⟨⟨by rw [List.length_map, List.length_drop, hl], fun hn => ?_⟩, fun t ht => h.each t (List.mem_of_mem_drop ht), fun t ht => h.one t (List.mem_of_mem_drop ht)⟩
  obtain ⟨ad, e, hb, hcs⟩ := hc (by omega)
  injection e with e; subst e
  refine ⟨_, rfl, hb, fun j u hj => ?_⟩
  rw [List.map_drop, List.getElem?_drop] at hj
  have := hcs (1 + j) u hj
  rw [← add_add, head_add] at this
  exact this
set_option maxHeartbeats 8000000 in
set_option maxRecDepth 100000 in
theorem lamBody_c (x : Nd3) (ts : List FTr) (na gp m mc : Nat) (L : List LT) (ps : List Tm) (B : LT) (w : World) (hk : Kind x ts) (hx : nodeF x = true) (hna : x.2.1 = na) (hm : ts.length = m) (hm5 : m ≤ 5) (hmc : m ≤ mc)
    (hG : RdV w 2 (some ⟨gp, 0, none⟩) m (ps.map Tm.it)) (hps : ps.map Tm.t = L) (hle : ∀ p ∈ L, p.length ≤ 400) (hB : bodLm x L = B) (hL : LibS w) :
    Calls Tryz.prog 129 #[.agg #[.int .i64 x.1, .int .i64 x.2.1, .int .i64 x.2.2], .int .i64 na, .slice (some ⟨gp, 0, none⟩) m mc] w (RdOut B w) := by
  have hLm : L.length = m := by have := itLen hG; rw [← hps, List.length_map, this]
  have hBb : B.length ≤ 2900 := by rw [← hB]; exact bodLm_len hx (by omega) hle
  have HBO := Lib.hid hB; have HPS := Lib.hid hps; have HLE := Lib.hid hle; have HLM := Lib.hid hLm; have HM := Lib.hid hm
  have hna4 : na ≤ 4 := by have := (nodeF_ar hx).2.1; omega
  obtain ⟨kd, a, ii⟩ := x
  simp only at hna
  subst hna
  obtain ⟨wa, hwa⟩ : ∃ wa, w.alloc (.cells #[.int .i64 kd, .int .i64 (na : Int), .int .i64 ii] 77) = wa := ⟨_, rfl⟩
  have Ea := Lib.hid (show Below w.heap.size w wa by rw [← hwa]; exact below_size.alloc (Nat.le_refl _) _)
  have Za := Lib.hid (show Blk wa w.heap.size 77 #[.int .i64 kd, .int .i64 (na : Int), .int .i64 ii] by rw [← hwa]; exact Blk.new _ _ _)
  have HG := Lib.hid (hG.below Ea.out); have HL := Lib.hid (hL.below Ea.out); have hza := Ea.out.size
  have HC := Lib.hid (variables00_c na wa (by omega))
  clear hG hL hB hps hle hLm hm
  show Calls Tryz.prog 129 #[.agg #[.int .i64 kd, .int .i64 (na : Int), .int .i64 ii], .int .i64 na, .slice (some ⟨gp, 0, none⟩) m mc] w (RdOut B w)
  go_enter Tryz.func129, Tryz.ntmps129
  go_wp2_with fail
  refine HC.out.mono ?_
  rintro e w2 ⟨X, xc, xs, rfl, hl2, hm2, hb2⟩
  have D2 := Lib.hid hb2; have E2 := Lib.hid (Ea.out.trans (hb2.mono hza)); have XL := Lib.hid hl2; have XM := Lib.hid hm2
  have HG2 := Lib.hid (HG.out.below hb2); have HL2 := Lib.hid (HL.out.below hb2)
  have Z2 := Lib.hid (Za.out.keep hb2)
  have k0 : w2.cell? ⟨w.heap.size, 0, none⟩ = some (.int .i64 kd) := Z2.out.cell 0
  have hz2 := E2.out.size
  have hxc := hl2.own.cap
  have EW : ∀ w1 : World, Below w2.drew.heap.size w2.drew w1 → Below w2.heap.size w2 w1 := fun w1 hb => below_of_drew hb
  have KI := hk
  clear hl2 hm2 hb2 hk HC
  cases KI with
  | zero h0 ha hi ht =>
    simp only at h0 ha hi
    subst h0 hi
    have HB2 := Lib.hid (show numLm 0 = B by rw [← HBO.out, bod_zero rfl])
    clear ht
    go_wp2_with fail
    refine (numeralLam0_c _).mono ?_
    rintro e w7 ⟨A7, c7, rfl, hl7, hw7, hc7, hb7⟩
    have R7 := Lib.hid (show Rd2 w7 A7 3 (numLm 0) from hw7.rd); have E7 := Lib.hid (E2.out.trans (hb7.mono hz2))
    clear hl7 hw7 hc7 hb7
    go_wp2_with fail
    go_ret
    rw [← HB2.out]
    exact ⟨A7, c7, rfl, R7.out, E7.out⟩
  | next h0 ha hi ht =>
    simp only at h0 ha hi
    subst h0 hi
    obtain ⟨pd, AX, cX, TX, rfl, hp0, hcc0, hr0⟩ := XL.out.get (j := 0) (by omega)
    obtain ⟨gx, rfl⟩ : ∃ gx, pd = ⟨gx, 0, none⟩ := ⟨_, (XL.out.own.block rfl).2.2.1⟩
    rw [addrZf] at hcc0
    have hTX : TX = varLm 0 := by
      have h9 : (xs.map Tm.t)[0]? = some TX := by rw [List.getElem?_map, hp0]; rfl
      rw [XM.out, vsLm_at (by omega)] at h9
      injection h9 with h9
      rw [← h9]; congr 1; omega
    have HB2 := Lib.hid (show appLm sucLm [TX] = B by rw [hTX, ← HBO.out, bod_next rfl])
    have HX0 := Lib.hid hcc0; have RX := Lib.hid hr0
    have h1na : 1 ≤ na := by omega
    clear hp0 hcc0 hr0 hTX ht ha
    go_wp2_with fail
    -- region lb6
    refine MixA.wp_facts 6 [21, 22, 23, 24, 25, 26] [[], [], [1], [2], [3], [0, 4]]
      [fTn 10 sucLm,
       MixA.fP (.slice (some ⟨gx, 0, none⟩) na xc),
       MixA.fP (.pointer (some ⟨gx, 0, none⟩)),
       MixA.fP (.slice AX TX.length cX),
       fLs 1 [TX],
       fTn B.length B]
      (by kernel_rfl) (by kernel_rfl) (fun t ht => Nat.lt_of_lt_of_eq (show t < 86 by revert t; decide) rfl) ?_ ?_
    · intro f hf
      simp only [List.mem_cons, List.not_mem_nil, or_false] at hf
      rcases hf with rfl | rfl | rfl | rfl | rfl | rfl
      · exact fTn_st _ _
      · exact MixA.fP_st _
      · exact MixA.fP_st _
      · exact MixA.fP_st _
      · exact fLs_st _ _
      · exact fTn_st _ _
    simp only [MixA.EachF]
    refine ⟨?_, ?_, ?_, ?_, ?_, ?_, ?_⟩
    · intro a1 w1 hf
      have E1 := EW w1 hf.below
      have HL1 := Lib.hid (HL2.out.below E1)
      clear E1
      refine MixA.hop ⟨#[undef, undef, undef, undef, undef, undef, undef, undef, undef, undef, undef, undef, undef, undef, undef, undef, undef, undef, undef, undef, undef, undef], []⟩ (by intro cs b e; cases e) rfl (show 21 < 22 by decide) ?_ ?_
      · intro x hx
        simp [Op.operands, Call.operands] at hx
        rcases hx with rfl | rfl
        · rfl
        · rfl
      go_wp2_with fail
      refine (lamOf_suc _ HL1.out).mono ?_
      rintro e' w2' ⟨A2, c2, rfl, hl2, hw2, hc2, hb2⟩
      have W2 := Lib.hid (show Rd2 w2' A2 10 sucLm from hw2.rd); have B2 := Lib.hid hb2
      clear hl2 hw2 hc2 hb2
      go_wp2_with fail
      first | exact ⟨B2.out, A2, c2, rfl, W2.out⟩ | exact ⟨_, rfl, B2.out, A2, c2, rfl, W2.out⟩
    · intro a1 w1 hf
      refine MixA.hop ⟨#[undef, undef, undef, undef, undef, undef, undef, (.slice (some ⟨gx, 0, none⟩) na xc), undef, undef, undef, undef, undef, undef, undef, undef, undef, undef, undef, undef, undef, undef, undef], []⟩ (by intro cs b e; cases e) rfl (show 22 < 23 by decide) ?_ ?_
      · intro x hx
        simp [Op.operands] at hx
        rcases hx with rfl
        · exact (hf.was (t := 7) (by decide) rfl).trans rfl
      go_wp2_with fail
      first | exact ⟨below_size, rfl⟩ | exact ⟨_, rfl, below_size, rfl⟩
    · intro a1 w1 hf
      refine MixA.hop ⟨#[undef, undef, undef, undef, undef, undef, undef, undef, undef, undef, undef, undef, undef, undef, undef, undef, undef, undef, undef, undef, undef, undef, (.slice (some ⟨gx, 0, none⟩) na xc), undef], []⟩ (by intro cs b e; cases e) rfl (show 23 < 24 by decide) ?_ ?_
      · intro x hx
        simp [Op.operands] at hx
        rcases hx with rfl | rfl
        · exact (hf.pure (j := 1) (by decide) rfl).trans rfl
        · rfl
      go_wp2_with fail
      first | exact ⟨below_size, rfl⟩ | exact ⟨_, rfl, below_size, rfl⟩
    · intro a1 w1 hf
      have E1 := EW w1 hf.below
      have hc0 : w1.cell? ⟨gx, 0, none⟩ = some (.slice AX TX.length cX) := keepc E1 HX0.out
      clear E1
      refine MixA.hop ⟨#[undef, undef, undef, undef, undef, undef, undef, undef, undef, undef, undef, undef, undef, undef, undef, undef, undef, undef, undef, undef, undef, undef, undef, (.pointer (some ⟨gx, 0, none⟩)), undef], []⟩ (by intro cs b e; cases e) rfl (show 24 < 25 by decide) ?_ ?_
      · intro x hx
        simp [Op.operands] at hx
        subst hx
        · exact (hf.pure (j := 2) (by decide) rfl).trans rfl
      go_wp2_with fail
      first | exact ⟨below_size, rfl⟩ | exact ⟨_, rfl, below_size, rfl⟩
    · intro a1 w1 hf
      have E1 := EW w1 hf.below
      have HQ := Lib.hid (show Rd2 w1 AX TX.length TX from RX.out.below E1)
      obtain ⟨R, hR, _⟩ := hf.facts
      have hv24 : MixA.val a1 24 = .slice AX TX.length cX := (hR 3 (by decide)).1
      clear hR E1
      refine MixA.hop ⟨#[undef, undef, undef, undef, undef, undef, undef, undef, undef, undef, undef, undef, undef, undef, undef, undef, undef, undef, undef, undef, undef, undef, undef, undef, (.slice AX TX.length cX), undef], []⟩ (by intro cs b e; cases e) rfl (show 25 < 26 by decide) ?_ ?_
      · intro x hx
        simp [Op.operands] at hx
        subst hx
        · exact hv24.trans rfl
      go_wp2_with fail
      first | exact ⟨below_size.alloc (Nat.le_refl _) _, _, _, _, rfl, tm1 HQ.out, rfl⟩ | exact ⟨_, rfl, below_size.alloc (Nat.le_refl _) _, _, _, _, rfl, tm1 HQ.out, rfl⟩
    · intro a1 w1 hf
      obtain ⟨R, hR, _⟩ := hf.facts
      obtain ⟨A21, c21, hv21, h21⟩ : fTn 10 sucLm [] (MixA.val a1 21) (R 0).1 (R 0).2 w1 := (hR 0 (by decide)).1
      obtain ⟨A25, c25, ps25, hv25, h25, m25⟩ : fLs 1 [TX] [] (MixA.val a1 25) (R 4).1 (R 4).2 w1 := (hR 4 (by decide)).1
      have HQ := Lib.hid h21; have HV := Lib.hid h25; have HM := Lib.hid (show appLm sucLm (ps25.map Tm.t) = B by rw [m25]; exact HB2.out)
      clear hR h21 h25 m25
      refine MixA.hop ⟨#[undef, undef, undef, undef, undef, undef, undef, undef, undef, undef, undef, undef, undef, undef, undef, undef, undef, undef, undef, undef, undef, (.slice A21 10 c21), undef, undef, undef, (.slice A25 1 c25), undef], []⟩ (by intro cs b e; cases e) rfl (show 26 < 27 by decide) ?_ ?_
      · intro x hx
        simp [Op.operands, Call.operands] at hx
        rcases hx with rfl | rfl | rfl
        · rfl
        · exact hv21.trans rfl
        · exact hv25.trans rfl
      go_wp2_with fail
      refine (applyLamT_c A21 10 c21 sucLm A25 1 c25 B.length ps25 B _ HQ.out HV.out (by omega) HM.out rfl (by omega)).mono ?_
      rintro e' w2' ⟨A2, c2, rfl, hl2, hw2, hc2, hb2⟩
      have W2 := Lib.hid (show Rd2 w2' A2 B.length B from hw2.rd); have B2 := Lib.hid hb2
      clear hl2 hw2 hc2 hb2
      go_wp2_with fail
      first | exact ⟨B2.out, A2, c2, rfl, W2.out⟩ | exact ⟨_, rfl, B2.out, A2, c2, rfl, W2.out⟩
    · intro a1 w1 hf
      obtain ⟨R, hR, hd⟩ := hf.facts
      obtain ⟨A9, c9, hv26, h26⟩ : fTn B.length B [] (MixA.val a1 26) (R 5).1 (R 5).2 w1 := (hR 5 (by decide)).1
      have F9 := Lib.hid (below_of_drew hf.below)
      have R9 := Lib.hid h26
      rw [hf.act]
      clear hR hd h26 EW
      simp only [List.foldl_cons, List.foldl_nil, hv26]
      clear hv26 hf
      simp only [Act.put, List.setIfInBounds_toArray, List.set_cons_succ, List.set_cons_zero]
      go_wp2_with fail
      go_ret
      exact ⟨A9, c9, rfl, R9.out, E2.out.trans (F9.out.mono E2.out.size)⟩
    -- behind the region lb6
  | pick h0 ha hi ht =>
    simp only at h0 ha hi
    subst h0
    obtain ⟨k, rfl⟩ : ∃ k : Nat, ii = (k : Int) := ⟨ii.toNat, by omega⟩
    have hkna : k < na := by omega
    obtain ⟨pd, AX, cX, TX, rfl, hp0, hcc0, hr0⟩ := XL.out.get (j := k) hkna
    obtain ⟨gx, rfl⟩ : ∃ gx, pd = ⟨gx, 0, none⟩ := ⟨_, (XL.out.own.block rfl).2.2.1⟩
    rw [head_add] at hcc0
    have hTX : TX = B := by
      have h9 : (xs.map Tm.t)[k]? = some TX := by rw [List.getElem?_map, hp0]; rfl
      rw [XM.out, vsLm_at (by omega)] at h9
      injection h9 with h9
      rw [← h9, ← HBO.out, bod_pick rfl]; congr 1; simp only; omega
    subst hTX
    have k2 : w2.cell? ⟨w.heap.size, 2, none⟩ = some (.int .i64 (k : Int)) := Z2.out.cell 2
    have RX := Lib.hid hr0
    clear hp0 hr0 ht ha hi
    go_wp2_with fail
    go_ret
    exact ⟨AX, cX, rfl, RX.out, E2.out⟩
  | rep h0 ha hi t u ht h1 h2 =>
    simp only at h0 ha hi
    subst h0 hi
    have h2m : 2 ≤ m := by rw [← HM.out, ht]; exact Nat.le_refl _
    have hna : 1 ≤ na ∧ na ≤ 3 := by omega
    clear ht h1 h2 ha
    obtain ⟨pd, q, e1, hp0, hcc0, hr0, _⟩ := HG2.out.at_ (j := 0) (by omega)
    injection e1 with e1; subst e1
    obtain ⟨pd, q', e1, hp1, hcc1, hr1, _⟩ := HG2.out.at_ (j := 1) (by omega)
    injection e1 with e1; subst e1
    rw [addrZf] at hcc0
    rw [head_add] at hcc1
    rw [List.getElem?_map] at hp0 hp1
    obtain ⟨⟨A0, c0, T0⟩, hq0⟩ : ∃ p, ps[0]? = some p := ⟨_, List.getElem?_eq_getElem (by have := itLen HG2.out; omega)⟩
    obtain ⟨⟨A1, c1, T1⟩, hq1⟩ : ∃ p, ps[1]? = some p := ⟨_, List.getElem?_eq_getElem (by have := itLen HG2.out; omega)⟩
    rw [hq0] at hp0; injection hp0 with hp0; subst hp0
    rw [hq1] at hp1; injection hp1 with hp1; subst hp1
    have hL0 : L[0]? = some T0 := by rw [← HPS.out, List.getElem?_map, hq0]; rfl
    have hL1 : L[1]? = some T1 := by rw [← HPS.out, List.getElem?_map, hq1]; rfl
    have ht0 : T0.length ≤ 400 := HLE.out T0 (List.mem_of_getElem? hL0)
    have ht1 : T1.length ≤ 400 := HLE.out T1 (List.mem_of_getElem? hL1)
    obtain ⟨px, AX, cX, TX, rfl, hpx, hccx, hrx⟩ := XL.out.get (j := 0) (by omega)
    obtain ⟨gx, rfl⟩ : ∃ gx, px = ⟨gx, 0, none⟩ := ⟨_, (XL.out.own.block rfl).2.2.1⟩
    rw [addrZf] at hccx
    have hTX : TX = varLm ((na : Int) - 1) := by
      have h9 : (xs.map Tm.t)[0]? = some TX := by rw [List.getElem?_map, hpx]; rfl
      rw [XM.out, vsLm_at (by omega)] at h9
      injection h9 with h9
      rw [← h9]; congr 1; omega
    obtain ⟨TA, hTA⟩ : ∃ T, stepLm na T1 = T := ⟨_, rfl⟩
    obtain ⟨TB, hTB⟩ : ∃ T, appLm T0 (vsLm na 1 0) = T := ⟨_, rfl⟩
    have HB2 := Lib.hid (show appLm TX [TA, falLm, numLm 0, TB] = B by
      have e0 : L.getD 0 [] = T0 := by rw [List.getD_eq_getElem?_getD, hL0]; rfl
      have e1 : L.getD 1 [] = T1 := by rw [List.getD_eq_getElem?_getD, hL1]; rfl
      rw [← HBO.out, bod_rep rfl, hTX]
      show appLm (varLm ((na : Int) - 1)) [TA, falLm, numLm 0, TB] = appLm (varLm ((na : Int) - 1)) [stepLm na (L.getD 1 []), falLm, numLm 0, appLm (L.getD 0 []) (vsLm na 1 0)]
      rw [e0, e1, hTA, hTB])
    have hTa : TA.length ≤ 3000 := by rw [← hTA, stepLm_len]; omega
    have hTb : TB.length ≤ 3000 := by rw [← hTB, appVs_len]; omega
    have HTA := Lib.hid hTA
    have HTB := Lib.hid (show appLm T0 ((xs.drop 1).map Tm.t) = TB by rw [List.map_drop, XM.out, vsLm_tail, hTB])
    have R0 := Lib.hid (show Rd2 w2 A0 T0.length T0 from hr0); have R1 := Lib.hid (show Rd2 w2 A1 T1.length T1 from hr1); have RX := Lib.hid hrx
    have x0 := Ext.cell (show w2.cell? ⟨gp, 0, none⟩ = some (.slice A0 T0.length c0) from hcc0)
    have x1 := Ext.cell (show w2.cell? ⟨gp, 1, none⟩ = some (.slice A1 T1.length c1) from hcc1)
    have x2 := Ext.cell hccx
    have VT := Lib.hid (show RdV w2 2 (some ⟨gx, 1, none⟩) (na - 1) ((xs.drop 1).map Tm.it) by rw [List.map_drop]; exact XL.out.rdV.tail1)
    clear hq0 hq1 hL0 hL1 hTA hTB hcc0 hcc1 hr0 hr1 hpx hccx hrx hTX
    by_cases hx1 : 1 < xc
    · have VY := VT
      go_wp2_with fail
      refine Mix.wp_region_mix [0, 0, 3, 0, 0, 0, 3, 1, 1, 1, 0, 0, 3, 0, 0, 1, 1, 1, 0] (fun w' => ∃ x : Ext w2, w' = x.w) (by kernel_rfl) (by kernel_rfl) (InExt.drew _) ?_
      repeat (first | (refine Mix.wpMix_read (by rfl) ?_; go_big_quiet_step (fail); refine wpQuiet_nil ?_) | (refine Mix.wpMix_pure (by rfl) ?_; go_big_quiet_step (fail); refine wpQuiet_nil ?_))
      refine Mix.wpMix_chg (by rfl) (fun K hK => ?_)
      go_wp2_with fail
      refine (repeatStep_c na A1 T1.length c1 T1 TA _ (R1.out.below (below_drew below_size)) HL2.out.drew HTA.out (by omega) (by omega) (by omega)).mono ?_
      rintro e w3 ⟨A3, c3, rfl, hl3, hw3, hc3, hb3⟩
      have F3 := Lib.hid (below_of_drew hb3); have D3 := Lib.hid F3.out
      have R3 := Lib.hid (show Rd2 w3 A3 (TA.length) (TA) from hw3.rd); have z3 := F3.out.size
      clear hl3 hw3 hc3 hb3
      go_wp2_with fail
      refine hK _ _ ⟨⟨_, F3.out⟩, rfl⟩ ?_
      clear hK K
      refine Mix.wpMix_chg (by rfl) (fun K hK => ?_)
      go_wp2_with fail
      refine (lamOf_fal _ (HL2.out.below F3.out)).mono ?_
      rintro e w4 ⟨A4, c4, rfl, hl4, hw4, hc4, hb4⟩
      have D4 := Lib.hid hb4; have F4 := Lib.hid (below_chain (F3.out) (F3.out).size hb4)
      have R4 := Lib.hid (show Rd2 w4 A4 (3) (falLm) from hw4.rd); have z4 := F4.out.size
      clear hl4 hw4 hc4 hb4
      go_wp2_with fail
      refine hK _ _ ⟨⟨_, F4.out⟩, rfl⟩ ?_
      clear hK K
      refine Mix.wpMix_chg (by rfl) (fun K hK => ?_)
      go_wp2_with fail
      refine (numeralLam0_c _).mono ?_
      rintro e w5 ⟨A5, c5, rfl, hl5, hw5, hc5, hb5⟩
      have D5 := Lib.hid hb5; have F5 := Lib.hid (below_chain (F4.out) (F4.out).size hb5)
      have R5 := Lib.hid (show Rd2 w5 A5 (3) (numLm 0) from hw5.rd); have z5 := F5.out.size
      clear hl5 hw5 hc5 hb5
      go_wp2_with fail
      refine hK _ _ ⟨⟨_, F5.out⟩, rfl⟩ ?_
      clear hK K
      repeat (first | (refine Mix.wpMix_read (by rfl) ?_; go_big_quiet_step (fail); refine wpQuiet_nil ?_) | (refine Mix.wpMix_pure (by rfl) ?_; go_big_quiet_step (fail); refine wpQuiet_nil ?_))
      refine Mix.wpMix_chg (by rfl) (fun K hK => ?_)
      go_wp2_with fail
      refine (applyLamT_c A0 T0.length c0 T0 (some ⟨gx, 1, none⟩) (na - 1) (xc - 1) TB.length (xs.drop 1) TB _ (R0.out.below F5.out) (VY.out.below F5.out) (by omega) HTB.out rfl (by omega)).mono ?_
      rintro e w6 ⟨A6, c6, rfl, hl6, hw6, hc6, hb6⟩
      have D6 := Lib.hid hb6; have F6 := Lib.hid (below_chain (F5.out) (F5.out).size hb6)
      have R6 := Lib.hid (show Rd2 w6 A6 (TB.length) (TB) from hw6.rd); have z6 := F6.out.size
      clear hl6 hw6 hc6 hb6
      go_wp2_with fail
      refine hK _ _ ⟨⟨_, F6.out⟩, rfl⟩ ?_
      clear hK K
      refine Mix.wpMix_chg (by rfl) (fun K hK => ?_)
      go_wp2_with fail
      refine hK _ _ ⟨⟨_, F6.out.alloc z6 _⟩, rfl⟩ ?_
      clear hK K
      have B6 := Lib.hid (F6.out.alloc z6 (.cells #[.slice A3 TA.length c3, .slice A4 3 c4, .slice A5 3 c5, .slice A6 TB.length c6] 25))
      refine Mix.wpMix_chg (by rfl) (fun K hK => ?_)
      go_wp2_with fail
      refine (applyLamT_c AX TX.length cX TX (some ⟨w6.heap.size, 0, none⟩) 4 4 B.length [⟨A3, c3, TA⟩, ⟨A4, c4, falLm⟩, ⟨A5, c5, numLm 0⟩, ⟨A6, c6, TB⟩] B _ ((RX.out.below F6.out).alloc _) (tm4 (((R3.out.below D4.out).below D5.out).below D6.out) ((R4.out.below D5.out).below D6.out) (R5.out.below D6.out) R6.out) (by omega) HB2.out rfl (by omega)).mono ?_
      rintro e w7 ⟨A7, c7, rfl, hl7, hw7, hc7, hb7⟩
      have D7 := Lib.hid hb7; have F7 := Lib.hid (below_chain (B6.out) (B6.out).size hb7)
      have R7 := Lib.hid (show Rd2 w7 A7 (B.length) (B) from hw7.rd); have z7 := F7.out.size
      clear hl7 hw7 hc7 hb7
      go_wp2_with fail
      refine hK _ _ ⟨⟨_, F7.out⟩, rfl⟩ ?_
      clear hK K
      repeat (first | (refine Mix.wpMix_read (by rfl) ?_; go_big_quiet_step (fail); refine wpQuiet_nil ?_) | (refine Mix.wpMix_pure (by rfl) ?_; go_big_quiet_step (fail); refine wpQuiet_nil ?_))
      (refine Mix.wpMix_nil ?_; try simp only [Exit.then])
      clear x0 x1 x2
      go_wp2_with fail
      go_ret
      exact ⟨A7, c7, rfl, R7.out, E2.out.trans (F7.out.mono hz2)⟩
    · have hxl : xc ≤ 1 := by omega
      have VY := Lib.hid (show RdV w2 2 (some ⟨gx, 0, none⟩) 0 ((xs.drop 1).map Tm.it) by
        have h9 : (xs.drop 1).map Tm.it = [] := by rw [List.length_eq_zero_iff.1 (show (xs.drop 1).length = 0 by rw [List.length_drop, XL.out.len]; omega)]; rfl
        rw [h9]
        exact ⟨⟨rfl, fun h => absurd h (by omega)⟩, (fun t ht => by cases ht), (fun t ht => by cases ht)⟩)
      obtain rfl : xc = 1 := by omega
      go_wp2_with fail
      refine Mix.wp_region_mix [0, 0, 3, 0, 0, 0, 3, 1, 1, 1, 0, 0, 3, 0, 0, 1, 1, 1, 0] (fun w' => ∃ x : Ext w2, w' = x.w) (by kernel_rfl) (by kernel_rfl) (InExt.drew _) ?_
      repeat (first | (refine Mix.wpMix_read (by rfl) ?_; go_big_quiet_step (fail); refine wpQuiet_nil ?_) | (refine Mix.wpMix_pure (by rfl) ?_; go_big_quiet_step (fail); refine wpQuiet_nil ?_))
      refine Mix.wpMix_chg (by rfl) (fun K hK => ?_)
      go_wp2_with fail
      refine (repeatStep_c na A1 T1.length c1 T1 TA _ (R1.out.below (below_drew below_size)) HL2.out.drew HTA.out (by omega) (by omega) (by omega)).mono ?_
      rintro e w3 ⟨A3, c3, rfl, hl3, hw3, hc3, hb3⟩
      have F3 := Lib.hid (below_of_drew hb3); have D3 := Lib.hid F3.out
      have R3 := Lib.hid (show Rd2 w3 A3 (TA.length) (TA) from hw3.rd); have z3 := F3.out.size
      clear hl3 hw3 hc3 hb3
      go_wp2_with fail
      refine hK _ _ ⟨⟨_, F3.out⟩, rfl⟩ ?_
      clear hK K
      refine Mix.wpMix_chg (by rfl) (fun K hK => ?_)
      go_wp2_with fail
      refine (lamOf_fal _ (HL2.out.below F3.out)).mono ?_
      rintro e w4 ⟨A4, c4, rfl, hl4, hw4, hc4, hb4⟩
      have D4 := Lib.hid hb4; have F4 := Lib.hid (below_chain (F3.out) (F3.out).size hb4)
      have R4 := Lib.hid (show Rd2 w4 A4 (3) (falLm) from hw4.rd); have z4 := F4.out.size
      clear hl4 hw4 hc4 hb4
      go_wp2_with fail
      refine hK _ _ ⟨⟨_, F4.out⟩, rfl⟩ ?_
      clear hK K
      refine Mix.wpMix_chg (by rfl) (fun K hK => ?_)
      go_wp2_with fail
      refine (numeralLam0_c _).mono ?_
      rintro e w5 ⟨A5, c5, rfl, hl5, hw5, hc5, hb5⟩
      have D5 := Lib.hid hb5; have F5 := Lib.hid (below_chain (F4.out) (F4.out).size hb5)
      have R5 := Lib.hid (show Rd2 w5 A5 (3) (numLm 0) from hw5.rd); have z5 := F5.out.size
      clear hl5 hw5 hc5 hb5
      go_wp2_with fail
      refine hK _ _ ⟨⟨_, F5.out⟩, rfl⟩ ?_
      clear hK K
      repeat (first | (refine Mix.wpMix_read (by rfl) ?_; go_big_quiet_step (fail); refine wpQuiet_nil ?_) | (refine Mix.wpMix_pure (by rfl) ?_; go_big_quiet_step (fail); refine wpQuiet_nil ?_))
      refine Mix.wpMix_chg (by rfl) (fun K hK => ?_)
      go_wp2_with fail
      refine (applyLamT_c A0 T0.length c0 T0 (some ⟨gx, 0, none⟩) (0) (0) TB.length (xs.drop 1) TB _ (R0.out.below F5.out) (VY.out.below F5.out) (by omega) HTB.out rfl (by omega)).mono ?_
      rintro e w6 ⟨A6, c6, rfl, hl6, hw6, hc6, hb6⟩
      have D6 := Lib.hid hb6; have F6 := Lib.hid (below_chain (F5.out) (F5.out).size hb6)
      have R6 := Lib.hid (show Rd2 w6 A6 (TB.length) (TB) from hw6.rd); have z6 := F6.out.size
      clear hl6 hw6 hc6 hb6
      go_wp2_with fail
      refine hK _ _ ⟨⟨_, F6.out⟩, rfl⟩ ?_
      clear hK K
      refine Mix.wpMix_chg (by rfl) (fun K hK => ?_)
      go_wp2_with fail
      refine hK _ _ ⟨⟨_, F6.out.alloc z6 _⟩, rfl⟩ ?_
      clear hK K
      have B6 := Lib.hid (F6.out.alloc z6 (.cells #[.slice A3 TA.length c3, .slice A4 3 c4, .slice A5 3 c5, .slice A6 TB.length c6] 25))
      refine Mix.wpMix_chg (by rfl) (fun K hK => ?_)
      go_wp2_with fail
      refine (applyLamT_c AX TX.length cX TX (some ⟨w6.heap.size, 0, none⟩) 4 4 B.length [⟨A3, c3, TA⟩, ⟨A4, c4, falLm⟩, ⟨A5, c5, numLm 0⟩, ⟨A6, c6, TB⟩] B _ ((RX.out.below F6.out).alloc _) (tm4 (((R3.out.below D4.out).below D5.out).below D6.out) ((R4.out.below D5.out).below D6.out) (R5.out.below D6.out) R6.out) (by omega) HB2.out rfl (by omega)).mono ?_
      rintro e w7 ⟨A7, c7, rfl, hl7, hw7, hc7, hb7⟩
      have D7 := Lib.hid hb7; have F7 := Lib.hid (below_chain (B6.out) (B6.out).size hb7)
      have R7 := Lib.hid (show Rd2 w7 A7 (B.length) (B) from hw7.rd); have z7 := F7.out.size
      clear hl7 hw7 hc7 hb7
      go_wp2_with fail
      refine hK _ _ ⟨⟨_, F7.out⟩, rfl⟩ ?_
      clear hK K
      repeat (first | (refine Mix.wpMix_read (by rfl) ?_; go_big_quiet_step (fail); refine wpQuiet_nil ?_) | (refine Mix.wpMix_pure (by rfl) ?_; go_big_quiet_step (fail); refine wpQuiet_nil ?_))
      (refine Mix.wpMix_nil ?_; try simp only [Exit.then])
      clear x0 x1 x2
      go_wp2_with fail
      go_ret
      exact ⟨A7, c7, rfl, R7.out, E2.out.trans (F7.out.mono hz2)⟩
  | least h0 ha hi t ht h1 =>
    simp only at h0 ha hi
    subst h0 hi
    have h1m : 1 ≤ m := by rw [← HM.out, ht]; exact Nat.le_refl _
    obtain ⟨pd, q, e1, hp0, hcc0, hr0, _⟩ := HG2.out.at_ (j := 0) (by omega)
    injection e1 with e1; subst e1
    rw [addrZf] at hcc0
    rw [List.getElem?_map] at hp0
    obtain ⟨⟨A0, c0, T0⟩, hq0⟩ : ∃ p, ps[0]? = some p := ⟨_, List.getElem?_eq_getElem (by have := itLen HG2.out; omega)⟩
    rw [hq0] at hp0; injection hp0 with hp0; subst hp0
    have hL0 : L[0]? = some T0 := by rw [← HPS.out, List.getElem?_map, hq0]; rfl
    have ht0 : T0.length ≤ 400 := HLE.out T0 (List.mem_of_getElem? hL0)
    have hcd : w2.cell? ⟨gp, 0, none⟩ = some (.slice A0 T0.length c0) := hcc0
    have R0 := Lib.hid (show Rd2 w2 A0 T0.length T0 from hr0)
    obtain ⟨TW, hTW⟩ : ∃ T, loopLm na T0 = T := ⟨_, rfl⟩
    have HB2 := Lib.hid (show appLm TW [TW, numLm 0] = B by
      have e0 : L.getD 0 [] = T0 := by rw [List.getD_eq_getElem?_getD, hL0]; rfl
      rw [← HBO.out, bod_least rfl]
      show appLm TW [TW, numLm 0] = appLm (loopLm na (L.getD 0 [])) [loopLm na (L.getD 0 []), numLm 0]
      rw [e0, hTW])
    have HTW := Lib.hid hTW
    have hTb : TW.length ≤ 3000 := by rw [← hTW, loopLm_len]; omega
    clear ht ha h1 hq0 hL0 hTW hcc0 hr0
    go_wp2_with fail
    refine (leastLoop_c na A0 T0.length c0 T0 TW _ R0.out HL2.out HTW.out (by omega) (by omega)).mono ?_
    rintro e w3 ⟨A3, c3, rfl, hl3, hw3, hc3, hb3⟩
    have D3 := Lib.hid hb3; have E3 := Lib.hid ((E2.out).trans (hb3.mono (E2.out).size)); have R3 := Lib.hid (show Rd2 w3 A3 (TW.length) (TW) from hw3.rd); have z3 := E3.out.size
    clear hl3 hw3 hc3 hb3
    go_wp2_with fail
    refine (numeralLam0_c _).mono ?_
    rintro e w4 ⟨A4, c4, rfl, hl4, hw4, hc4, hb4⟩
    have D4 := Lib.hid hb4; have E4 := Lib.hid ((E3.out).trans (hb4.mono (E3.out).size)); have R4 := Lib.hid (show Rd2 w4 A4 (3) (numLm 0) from hw4.rd); have z4 := E4.out.size
    clear hl4 hw4 hc4 hb4
    have E4b := Lib.hid (E4.out.alloc E4.out.size (.cells #[.slice A3 TW.length c3, .slice A4 3 c4] 25))
    go_wp2_with fail
    refine (applyLamT_c (A3) (TW.length) (c3) (TW) (some ⟨w4.heap.size, 0, none⟩) (2) (2) B.length ([⟨A3, c3, TW⟩, ⟨A4, c4, numLm 0⟩]) B _ ((R3.out.below D4.out).alloc _) (tm2 (R3.out.below D4.out) R4.out) (by omega) (HB2.out) rfl (by omega)).mono ?_
    rintro e w5 ⟨A5, c5, rfl, hl5, hw5, hc5, hb5⟩
    have D5 := Lib.hid hb5; have E5 := Lib.hid ((E4b.out).trans (hb5.mono (E4b.out).size)); have R5 := Lib.hid (show Rd2 w5 A5 (B.length) (B) from hw5.rd); have z5 := E5.out.size
    clear hl5 hw5 hc5 hb5
    go_wp2_with fail
    go_ret
    exact ⟨A5, c5, rfl, R5.out, E5.out⟩
  | comp h0 ha hi t u us0 ht h1 hl hu =>
    simp only at h0 ha hi
    subst h0
    have h2m : 2 ≤ m := by rw [← HM.out, ht]; simp
    clear ht h1 hl hu ha hi
    have hLm := HLM.out
    obtain ⟨pd, q, e1, hp0, hcc0, hr0, _⟩ := HG2.out.at_ (j := 0) (by omega)
    injection e1 with e1; subst e1
    rw [addrZf] at hcc0
    rw [List.getElem?_map] at hp0
    obtain ⟨⟨A0, c0, T0⟩, hq0⟩ : ∃ p, ps[0]? = some p := ⟨_, List.getElem?_eq_getElem (by have := itLen HG2.out; omega)⟩
    rw [hq0] at hp0; injection hp0 with hp0; subst hp0
    have hL0 : L[0]? = some T0 := by rw [← HPS.out, List.getElem?_map, hq0]; rfl
    have ht0 : T0.length ≤ 400 := HLE.out T0 (List.mem_of_getElem? hL0)
    have HCD := Lib.hid (show w2.cell? ⟨gp, 0, none⟩ = some (.slice A0 T0.length c0) from hcc0)
    have R0 := Lib.hid (show Rd2 w2 A0 T0.length T0 from hr0)
    obtain ⟨J, hJ⟩ : ∃ J, L.tail.map (fun p => appLm p (vsLm na 0 0)) = J := ⟨_, rfl⟩
    have HB2 := Lib.hid (show appLm T0 J = B by
      have e0 : L.getD 0 [] = T0 := by rw [List.getD_eq_getElem?_getD, hL0]; rfl
      rw [← HBO.out, bod_comp rfl]
      show appLm T0 J = appLm (L.getD 0 []) (L.tail.map fun p => appLm p (vsLm na 0 0))
      rw [e0, hJ])
    have HJ := Lib.hid hJ
    have HJL := Lib.hid (show J.length + 1 = m by rw [← hJ, List.length_map, List.length_tail]; omega)
    have XV := Lib.hid XL.out.rdV
    have Z0 := Lib.hid (show LmS (w2.alloc (.cells #[] 25)) w2.heap.size 25 (some ⟨w2.heap.size, 0, none⟩) 0 0 [] from LmS.nil (Own.lit (Nat.le_refl _)))
    have h2mc : 2 ≤ mc := by omega
    clear hq0 hL0 hJ hcc0 hr0 hLm
    go_wp2_with fail
    go_loopw [8, 40] (fun ov iv wr => ∃ (k oc : Nat) (O : Option Addr) (qs : List Tm), k ≤ m - 1 ∧ iv = .int .i64 k ∧ ov = .slice O k oc ∧ Hid (LmS wr w2.heap.size 25 O k oc qs) ∧ Hid (qs.map Tm.t = J.take k) ∧ Below w2.heap.size w2 wr) (fun _ iv _ => m - (intOf iv).toNat)
    case atStart => exact ⟨0, 0, _, [], by omega, rfl, rfl, Z0.out, rfl, below_size.alloc (Nat.le_refl _) _⟩
    case round =>
      obtain ⟨k, oc, O, qs, hk, rfl, rfl, hQ, hqm, hb⟩ := hrel
      have HB3 := Lib.hid hb
      have hwz := hb.size
      by_cases hlt : k < m - 1
      · obtain ⟨pd, q, e1, hp1, hcc1, hr1, _⟩ := HG2.out.at_ (j := 1 + k) (by omega)
        injection e1 with e1; subst e1
        rw [head_add] at hcc1
        rw [List.getElem?_map] at hp1
        obtain ⟨⟨A1, c1, T1⟩, hq1⟩ : ∃ p, ps[1 + k]? = some p := ⟨_, List.getElem?_eq_getElem (by have := itLen HG2.out; omega)⟩
        rw [hq1] at hp1; injection hp1 with hp1; subst hp1
        have hL1 : L[1 + k]? = some T1 := by rw [← HPS.out, List.getElem?_map, hq1]; rfl
        have ht1 : T1.length ≤ 400 := HLE.out T1 (List.mem_of_getElem? hL1)
        obtain ⟨T2, hT2⟩ : ∃ T2, appLm T1 (vsLm na 0 0) = T2 := ⟨_, rfl⟩
        have ht2 : T2.length ≤ 1000 := by rw [← hT2, appVs_len]; omega
        have HJ2 := Lib.hid (show J.take (k + 1) = J.take k ++ [T2] by
          refine take_at ?_
          rw [← HJ.out, List.getElem?_map, List.getElem?_tail, Nat.add_comm k 1, hL1, ← hT2]; rfl)
        have HT2 := Lib.hid (show appLm T1 (xs.map Tm.t) = T2 by rw [XM.out, hT2])
        have hcc1' : wr.cell? ⟨gp, 1 + k, none⟩ = some (.slice A1 T1.length c1) := keepc hb hcc1
        have R1 := Lib.hid (show Rd2 wr A1 T1.length T1 from hr1.below hb)
        have XV3 := Lib.hid (XV.out.below hb)
        clear hq1 hL1 hT2 hcc1 hr1 hb
        go_wp2_with fail
        refine (applyLamT_c A1 T1.length c1 T1 X na xc T2.length xs T2 _ R1.out XV3.out (by omega) HT2.out rfl (by omega)).mono ?_
        rintro e w4 ⟨A4, c4, rfl, hl4, hw4, hc4, hb4⟩
        have D4 := Lib.hid hb4; have W4 := Lib.hid hw4; have z4 := hb4.size; have E4 := Lib.hid (HB3.out.trans (hb4.mono hwz))
        clear hl4 hw4 hc4 hb4
        go_wp2_with (at_builtin; refine wp_app1 (by rfl) _ _ 32 25 (.slice none 0 0) 24 (by rfl) Tryz.underlying32 info_sLam rfl w2.heap.size O k oc (qs.map Tm.hd) (by rfl) (by exact (hQ.out.own.keep D4.out).alloc _) w4.heap.size (.slice A4 T2.length c4) (by rfl) (by exact new_cell _ _ _ 0) rfl (by omega) (by omega) (by simp; omega) ?_; intro g' cap w5 own5 hb5 hk5 hg5 hz5; have L5 := Lib.hid (LmS.push hQ.out hwz (w1 := w4.alloc (.cells #[.slice A4 T2.length c4] 25)) (p := ⟨A4, c4, T2⟩) (D4.out.alloc z4 _) ((W4.out.below (below_size.alloc (Nat.le_refl _) _)).wider (Nat.le_refl _) (by simp)) (by rw [List.map_append]; exact own5) hk5 hg5 hz5); have E5 := Lib.hid ((E4.out.alloc (by omega) _).trans hb5); clear own5 hb5 hk5 hg5 hz5)
        go_roundw
        case rel => exact ⟨k + 1, cap, some ⟨g', 0, none⟩, qs ++ [(⟨A4, c4, T2⟩ : Tm)], by omega, by go_num, rfl, L5.out, by unfold Hid; rw [List.map_append, hqm.out, HJ2.out]; rfl, E5.out⟩
        case measure => simp [intOf]; omega
      · have HQM := Lib.hid (show qs.map Tm.t = J by rw [hqm.out, List.take_of_length_le (by have := HJL.out; omega)])
        have VQ := Lib.hid hQ.out.rdV
        have E6 := Lib.hid (E2.out.trans (hb.mono hz2))
        have z0 : wr.cell? ⟨gp, 0, none⟩ = some (.slice A0 T0.length c0) := keepc hb HCD.out
        have R6 := Lib.hid (show Rd2 wr A0 T0.length T0 from R0.out.below hb)
        clear hb
        go_wp2_with fail
        refine (applyLamT_c A0 T0.length c0 T0 O k oc B.length qs B _ R6.out VQ.out (by omega) (by rw [HQM.out]; exact HB2.out) rfl (by omega)).mono ?_
        rintro e w7 ⟨A7, c7, rfl, hl7, hw7, hc7, hb7⟩
        have D7 := Lib.hid hb7; have E7 := Lib.hid ((E6.out).trans (hb7.mono (E6.out).size)); have R7 := Lib.hid (show Rd2 w7 A7 (B.length) (B) from hw7.rd); have z7 := E7.out.size
        clear hl7 hw7 hc7 hb7
        go_wp2_with fail
        go_ret
        exact ⟨A7, c7, rfl, R7.out, E7.out⟩
end Go.Proofs.YtebjpmmgdkepjaaGreatDoor
/-
  Contracts of chapter 11 (recursive functions): the program's text of a function.
-/
namespace Go.Proofs.YtebjpmmgdkepjaaGreatDoor
open Go.RowKit
open FTr

/-- blocks that stay but one -/
structure KpB (g : Nat) (w2 wr : World) (B : Option Addr) : Prop where
  cells : ∀ b, b < w2.heap.size → b ≠ g → wr.heap[b]? = w2.heap[b]?
  size : w2.heap.size ≤ wr.heap.size
  own : ∀ ad, B = some ad → ad.block = g ∨ w2.heap.size ≤ ad.block
theorem KpB.cell {g : Nat} {w2 wr : World} {B : Option Addr} {p : Addr} {v : Value} (h : KpB g w2 wr B) (hp : p.block ≠ g) (hc : w2.cell? p = some v) : wr.cell? p = some v := by
  have hb := World.block_lt_of_cell? w2 _ hc
  rw [← hc]
  simp only [World.cell?, h.cells _ hb hp]
theorem KpB.step {g : Nat} {w2 wr w3 : World} {B B' : Option Addr} (h : KpB g w2 wr B) (hk : ∀ b, b < wr.heap.size → (∀ ad', B = some ad' → ad'.block ≠ b) → w3.heap[b]? = wr.heap[b]?) (hz : wr.heap.size ≤ w3.heap.size) (hB : B' = B ∨ ∀ ad, B' = some ad → wr.heap.size ≤ ad.block) : KpB g w2 w3 B' := by
  refine ⟨fun b hb hg => ?_, Nat.le_trans h.size hz, fun ad e => ?_⟩
  · rw [hk b (by have := h.size; omega) (fun ad e => by rcases h.own ad e with h1 | h1 <;> omega)]
    exact h.cells b hb hg
  · rcases hB with rfl | h1
    · exact h.own ad e
    · exact .inr (Nat.le_trans h.size (h1 ad e))
end Go.Proofs.YtebjpmmgdkepjaaGreatDoor
/-
  Functions as terms: the program's term of a function.
-/
namespace Go.Proofs.YtebjpmmgdkepjaaGreatDoor
open Go.RowKit
open FTr

/-- a term of the call's own: the one that is asked for, or one that is too long -/
def FtOut (o : Option LT) (w : World) (e : Ending) (w' : World) : Prop := ∃ T A c, e = .returned (.slice A T.length c) ∧ Wr w' w.heap.size w'.heap.size A (T.length * 2) (T.flatMap enc2) ∧ T.length ≤ c ∧ Below w.heap.size w w' ∧ T.length ≤ 3000 ∧ (match o with
  | some U => T = U ∧ T.length ≤ 400
  | none => 400 < T.length)
theorem trmO_len {t : FTr} {u : LT} (h : trmO t = some u) : u.length ≤ 400 := (validL_end (trmO_valid h)).2.2
theorem part_valid {ts : List FTr} {L : List LT} (h : ts.map trmO = L.map some) : ∀ p ∈ L, validL p = true := fun p hp => by
  have h1 : some p ∈ L.map some := List.mem_map_of_mem hp
  rw [← h] at h1
  obtain ⟨t, _, ht⟩ := List.mem_map.1 h1
  exact trmO_valid ht
set_option maxHeartbeats 8000000 in
set_option maxRecDepth 100000 in
theorem funcToLam_c (t0 : FTr) : okT t0 = true → (flat t0).length ≤ 60 → ∀ (ad : Addr) (n cp : Nat) (w : World), Rd3 w (some ad) n (flat t0) → n ≤ cp → LibS w →
    Calls Tryz.prog 86 #[.slice (some ad) n cp] w (FtOut (trmO t0) w) := by
  refine FTr.ind (P := fun t0 => okT t0 = true → (flat t0).length ≤ 60 → ∀ (ad : Addr) (n cp : Nat) (w : World), Rd3 w (some ad) n (flat t0) → n ≤ cp → LibS w →
    Calls Tryz.prog 86 #[.slice (some ad) n cp] w (FtOut (trmO t0) w)) (fun x ts ih ho h60 ad n cp w h hcp hLS => ?_) t0
  have hL := h.len
  have hpos := flat_pos (mk x ts)
  obtain ⟨ad', x', e, hab, hx, hc0, hc1, hc2⟩ := h.at_ (k := 0) (by omega)
  injection e with e; subst e
  rw [Nat.zero_mul, addrZf] at hc0 hc1 hc2
  rw [flat_mk, List.getElem?_cons_zero] at hx
  injection hx with hx; subst hx
  have hO := okT_iff.1 ho
  obtain ⟨m, hm⟩ : ∃ m, ts.length = m := ⟨_, rfl⟩
  have hm5 : m ≤ 5 := by rw [← hm, ← List.length_map (f := ar), hO.ars]; exact manyF_le x hO.node
  have HMF := Lib.hid (show manyF x = m by rw [← hm, ← List.length_map (f := ar), hO.ars]; rfl)
  have HNO := Lib.hid hO.node
  have C0 := Lib.hid hc0; have C1 := Lib.hid hc1; have C2 := Lib.hid hc2
  obtain ⟨w1, hw1⟩ : ∃ w1, w.alloc (.cells #[] 25) = w1 := ⟨_, rfl⟩
  have E1 := Lib.hid (show Below w.heap.size w w1 by rw [← hw1]; exact below_size.alloc (Nat.le_refl _) _)
  have O1 := Lib.hid (show Own w1 w.heap.size 25 1 (some ⟨w.heap.size, 0, none⟩) 0 0 [] by rw [← hw1]; exact Own.lit (Nat.le_refl _))
  have hz1 : w.heap.size < w1.heap.size := by rw [← hw1, World.size_alloc]; omega
  have HPA := Lib.hid (show ∀ ki : Int, ki = 0 → Calls Tryz.prog 128 #[.slice (some ad) n cp, .int .i64 ki] w1 fun e w' => ∃ A c, e = .returned (.slice A m c) ∧ Own w' w1.heap.size 45 1 A m c (ptVs ad cp 1 ts) ∧ Below w1.heap.size w1 w' from fun ki hk => by
    subst hk
    exact partsAt_c ad n cp (flat (mk x ts)) 0 x ts [] m _ (Rd3.below h E1.out) (by omega) hcp (by rw [List.drop_zero, List.append_nil]) ho hm)
  have HI := Lib.hid (show ∀ t ∈ ts, ∀ (ad : Addr) (cp : Nat) (w : World), Rd3 w (some ad) (flat t).length (flat t) → (flat t).length ≤ cp → LibS w → Calls Tryz.prog 86 #[.slice (some ad) (flat t).length cp] w (FtOut (trmO t) w) from
    fun t ht ad cp w h1 h2 h3 => ih t ht (hO.kids t ht) (by have := flats_mem ht; rw [flat_mk, List.length_cons] at h60; omega) ad _ cp w h1 h2 h3)
  have H := Lib.hid h; have HLS := Lib.hid hLS; have HTS := Lib.hid hm; have HK := Lib.hid hO.kind
  clear h hLS ih hO ho hm hc0 hc1 hc2
  go_enter Tryz.func86, Tryz.ntmps86
  go_wp2_with fail
  refine (HPA.out _ rfl).mono ?_
  rintro e w2 ⟨PA, pc, rfl, hPA, hb2⟩
  have P2 := Lib.hid hPA; have E2 := Lib.hid (E1.out.trans (hb2.mono (by omega))); have O2 := Lib.hid (O1.out.keep hb2); have z2 := hb2.size
  clear hPA hb2 HPA
  go_wp2_with fail
  go_loopw [3, 12] (fun ov iv wr => ∃ (i oc : Nat) (O : Option Addr) (ps : List Tm), i ≤ m ∧ iv = .int .i64 i ∧ ov = .slice O i oc ∧ Hid (O ≠ none) ∧ Hid (LmS wr w.heap.size 25 O i oc ps) ∧ Hid ((ts.take i).map trmO = (ps.map Tm.t).map some) ∧ Hid (KpB w.heap.size w2 wr O) ∧ Below w.heap.size w wr) (fun _ iv _ => m - (intOf iv).toNat)
  case atStart => exact ⟨0, 0, _, [], by omega, rfl, rfl, (by unfold Hid; simp), LmS.nil O2.out, rfl, ⟨fun _ _ _ => rfl, Nat.le_refl _, fun ad e => by injection e with e; subst e; exact .inl rfl⟩, E2.out⟩
  case round =>
    obtain ⟨i, oc, O, ps, hi, rfl, rfl, hne, hO, hp, hkp, hb⟩ := hrel
    have HB := Lib.hid hb
    have hwz := hb.size
    by_cases hlt : i < m
    · obtain ⟨t, ht⟩ : ∃ t, ts[i]? = some t := ⟨_, List.getElem?_eq_getElem (by rw [HTS.out]; exact hlt)⟩
      obtain ⟨pd, v0, rfl, hq1, hq2, hq3, hv, hcv, _⟩ := P2.out.wr.at_ (k := i) (by omega)
      have hnb : (pd.add i).block ≠ w.heap.size := by rw [block_add]; omega
      rw [ptVs_at ht] at hv
      injection hv with hv
      obtain ⟨p, hpp⟩ : ∃ p, 1 + (flats (ts.take i)).length = p := ⟨_, rfl⟩
      obtain ⟨l, hl⟩ : ∃ l, (flat t).length = l := ⟨_, rfl⟩
      obtain ⟨r', hr'⟩ := part_at (f := flat (mk x ts)) (k := 0) (r := []) (by rw [List.drop_zero, List.append_nil]) ht
      rw [Nat.zero_add, hpp] at hr'
      have hlr := congrArg List.length hr'
      rw [List.length_drop, List.length_append, hL, hl] at hlr
      have htp := flat_pos t
      rw [hl] at htp
      have hcv' := hkp.out.cell hnb hcv
      rw [← hv, ptV, hpp, hl] at hcv'
      obtain ⟨o, hoo⟩ : ∃ o, trmO t = o := ⟨_, rfl⟩
      have HS := Lib.hid (show ∀ w', Below w.heap.size w w' → Calls Tryz.prog 86 #[.slice (some (ad.add (p * 3))) l (cp - p)] w' (FtOut o w') from fun w' hb' => by
        have h1 := (Rd3.below H.out hb').part p l (by omega)
        rw [hr', List.take_left' hl] at h1
        have := HI.out t (List.mem_of_getElem? ht) (ad.add (p * 3)) (cp - p) w' (by rw [hl]; exact h1) (by omega) (HLS.out.below hb')
        rw [hl, hoo] at this; exact this)
      have HX := Lib.hid (show (ts.take (i + 1)).map trmO = (ps.map Tm.t).map some ++ [o] by rw [take_at ht, List.map_append, hp.out, List.map_cons, List.map_nil, hoo])
      have HTM := Lib.hid (List.mem_of_getElem? ht); have HOO := Lib.hid hoo
      clear ht hv hr' hl hcv hb hpp hnb hq1 hq2 hq3 hoo hp
      cases o with
      | none =>
        have HG := Lib.hid (show none = trmO (mk x ts) from (trmO_no (trmsO_none HTM.out HOO.out)).symm)
        go_wp2_with fail
        refine (HS.out _ HB.out).mono ?_
        rintro e w4 ⟨T, A4, c4, rfl, hw4, hc4, hb4, h3k, h400⟩
        have W4 := Lib.hid (hw4.wider (lo' := w.heap.size) hwz (Nat.le_refl _)); have C4 := Lib.hid hc4; have E4 := Lib.hid (HB.out.trans (hb4.mono hwz))
        have g4 : decide ((T.length : Int) > 400) = true := decide_eq_true (by exact Int.ofNat_lt.2 h400)
        have H400 := Lib.hid h400
        clear hw4 hc4 hb4 h400
        go_wp2_with fail
        go_ret
        rw [← HG.out]
        exact ⟨T, A4, c4, rfl, W4.out, C4.out, E4.out, h3k, H400.out⟩
      | some U =>
        go_wp2_with fail
        refine (HS.out _ HB.out).mono ?_
        rintro e w4 ⟨T, A4, c4, rfl, hw4, hc4, hb4, h3k, hTU, h400⟩
        subst hTU
        have W4 := Lib.hid hw4; have D4 := Lib.hid hb4; have z4 := hb4.size; have E4 := Lib.hid (HB.out.trans (hb4.mono hwz))
        have K4 := Lib.hid (KpB.step (B' := O) (KpB.step (B' := O) hkp.out (fun b hb _ => hb4.block b hb) hb4.size (.inl rfl)) (fun b hb _ => (below_size.alloc (Nat.le_refl _) (.cells #[.slice A4 T.length c4] 25)).block b hb) (by simp) (.inl rfl))
        have g4 : decide ((T.length : Int) > 400) = false := decide_eq_false (by omega)
        clear hw4 hc4 hb4
        go_wp2_with (at_builtin; refine wp_app1 (by rfl) _ _ 32 25 (.slice none 0 0) 24 (by rfl) Tryz.underlying32 info_sLam rfl w.heap.size O i oc (ps.map Tm.hd) (by rfl) (by exact (hO.out.own.keep D4.out).alloc _) w4.heap.size (.slice A4 T.length c4) (by rfl) (by exact new_cell _ _ _ 0) rfl (by omega) (by omega) (by simp; omega) ?_; intro g' cap w5 own5 hb5 hk5 hg5 hz5; have L5 := Lib.hid (LmS.push hO.out hwz (w1 := w4.alloc (.cells #[.slice A4 T.length c4] 25)) (p := ⟨A4, c4, T⟩) (D4.out.alloc z4 _) ((W4.out.below (below_size.alloc (Nat.le_refl _) _)).wider (Nat.le_refl _) (by simp)) (by rw [List.map_append]; exact own5) hk5 hg5 hz5); have K5 := Lib.hid (KpB.step (B' := some ⟨g', 0, none⟩) K4.out hk5 hz5 (hg5.elim (fun e => .inl e.symm) (fun e => .inr fun ad h => by injection h with h; subst h; exact Nat.le_of_eq e.symm))); have E5 := Lib.hid ((E4.out.alloc (by omega) _).trans hb5); clear own5 hb5 hk5 hg5 hz5)
        go_roundw
        case rel => exact ⟨i + 1, cap, some ⟨g', 0, none⟩, ps ++ [(⟨A4, c4, T⟩ : Tm)], by omega, by go_num, rfl, (by unfold Hid; simp), L5.out, by unfold Hid; rw [HX.out, List.map_append, List.map_append]; rfl, K5.out, E5.out⟩
        case measure => simp [intOf]; omega
    · obtain rfl : i = m := by omega
      have HTK := Lib.hid (show ts.take i = ts from List.take_of_length_le (by rw [HTS.out]; exact Nat.le_refl _))
      obtain ⟨L, hLL⟩ : ∃ L, ps.map Tm.t = L := ⟨_, rfl⟩
      have hpt : ts.map trmO = L.map some := by rw [← hLL, ← hp.out, HTK.out]
      have hpl2 : L.length = i := by rw [← hLL, List.length_map, hO.out.len]
      have HLE := Lib.hid (part_len hpt)
      obtain ⟨B, hB⟩ : ∃ B, bodLm x L = B := ⟨_, rfl⟩
      obtain ⟨U, hU0⟩ : ∃ U, outLm x L = U := ⟨_, rfl⟩
      have hBb : B.length ≤ 2900 := by rw [← hB]; exact bodLm_len HNO.out (by rw [hpl2]; exact hm5) HLE.out
      have hUb : U.length ≤ 3000 := by rw [← hU0]; exact outLm_len HNO.out (by rw [hpl2]; exact hm5) HLE.out
      have HRES := Lib.hid (show (if U.length ≤ 400 then some U else none) = trmO (mk x ts) by
        rw [trmO_yes (trmsO_of hpt), outLm_valid HNO.out (by rw [hpl2, HMF.out]) (part_valid hpt), hU0]
        by_cases h4 : U.length ≤ 400
        · rw [if_pos h4, decide_eq_true h4]; rfl
        · rw [if_neg h4, decide_eq_false h4]; rfl)
      have HUB := Lib.hid (show absLm x.2.1.toNat B = U by rw [← hU0, ← hB]; rfl)
      have HB0 := Lib.hid hB; have HPL := Lib.hid hLL
      have q0 : wr.cell? ad = some (i64 x.1) := keepc hb C0.out
      have q1 : wr.cell? ⟨ad.block, ad.off + 1, none⟩ = some (i64 x.2.1) := keepc hb C1.out
      have q2 : wr.cell? ⟨ad.block, ad.off + 2, none⟩ = some (i64 x.2.2) := keepc hb C2.out
      have LS := Lib.hid (HLS.out.below hb)
      obtain ⟨na, hna⟩ : ∃ na : Nat, x.2.1 = (na : Int) := ⟨x.2.1.toNat, by have := (nodeF_ar HNO.out).1; omega⟩
      have hna4 : na ≤ 4 := by have := (nodeF_ar HNO.out).2.1; omega
      obtain ⟨pd, rfl⟩ : ∃ pd, O = some pd := by
        cases hOO : O with
        | none => exact absurd hOO hne.out
        | some pd => exact ⟨pd, rfl⟩
      obtain ⟨gp, rfl⟩ : ∃ gp, pd = ⟨gp, 0, none⟩ := ⟨_, (hO.out.own.block rfl).2.2.1⟩
      have HLB := Lib.hid (lamBody_c x ts na gp i oc L ps B wr HK.out HNO.out hna HTS.out hm5 hO.out.own.cap hO.out.rdV HPL.out HLE.out HB0.out LS.out)
      obtain ⟨kd, a, ii⟩ := x
      simp only at q0 q1 q2 hna HLB HUB
      subst hna
      rw [Int.toNat_natCast] at HUB
      clear hb hkp hp hLL hpt hB hU0 HI hlt
      go_wp2_with fail
      refine HLB.out.mono ?_
      rintro e w7 ⟨A7, c7, rfl, hr7, hb7⟩
      have R7 := Lib.hid hr7; have E7 := Lib.hid (HB.out.trans (hb7.mono hwz)); have z7 := E7.out.size
      clear hr7 hb7
      go_wp2_with fail
      refine (abstractT_c na A7 B.length c7 B U _ R7.out HUB.out (by omega) (by omega)).mono ?_
      rintro e w8 ⟨A8, c8, rfl, _, hw8, hc8, hb8⟩
      have W8 := Lib.hid (hw8.wider (lo' := w.heap.size) z7 (Nat.le_refl _)); have C8 := Lib.hid hc8; have E8 := Lib.hid (E7.out.trans (hb8.mono z7))
      clear hw8 hc8 hb8
      go_wp2_with fail
      go_ret
      refine ⟨U, A8, c8, rfl, W8.out, C8.out, E8.out, hUb, ?_⟩
      rw [← HRES.out]
      by_cases h4 : U.length ≤ 400
      · rw [if_pos h4]; exact ⟨rfl, h4⟩
      · rw [if_neg h4]; exact Nat.lt_of_not_le h4
end Go.Proofs.YtebjpmmgdkepjaaGreatDoor
