/-
  Contracts of chapter 26: the reference's step back from a node.
-/
import Derived.Test.YtfahdgmlhinabaaC26s
namespace Go.Proofs.Ytfahdgmlhinabaa
open Go.RowKit

theorem segN_wr {w : World} {lo hi n hN : Nat} {ao : Addr} {x : List Int} {s c : Int} (hl : x.length = n) (hN2 : 2 + hN < n) (h : Wr w lo hi (some ao) n ((((x.set 0 (hN : Int)).set 1 s).set (2 + hN) c).map i64)) : Wr w lo hi (some ao) n ((segNode x (hN : Int) s c).map i64) := by
  unfold segNode
  rw [hl, inB_of (by omega) (by omega), if_pos rfl, show (2 + (hN : Int)).toNat = 2 + hN by omega]
  exact h
set_option maxHeartbeats 4000000 in
theorem l26Back_c (g : Nat) (sy st : Int) (A : Option Addr) (nr cp : Nat) (rs : List Rule3) (A' : Option Addr) (n c : Nat) (x : List Int) (i : Nat) (wr_ mv nx : Int) (w : World) (h : MachP w g sy st A nr cp rs) (hx : RdI w A' n x) (hsy : 2 ≤ sy ∧ sy ≤ 6) (hnr : nr ≤ 10000) (hi : rs[i]? = some (wr_, mv, nx)) (hok : NodeOk sy st x)
    (hr : (wr_, mv, nx) = noneR ∨ ((wr_, mv, nx) ≠ noneR ∧ (0 ≤ wr_ ∧ wr_ ≤ sy - 1) ∧ (mv = 1 ∨ mv = -1) ∧ (0 ≤ nx ∧ nx ≤ st - 1))) :
    Calls Try.prog 99 #[.pointer (some ⟨g, 0, none⟩), .slice A' n c, .int .i64 i] w (SegOut (if (wr_, mv, nx) = noneR then none else segBack x ((i : Int) / sy) ((i : Int) % sy) (wr_, mv, nx)) w) := by
  have HL := Lib.hid hx.len
  have hlen := hok.len
  rw [hx.len] at hlen
  have hin : i < nr := by have h1 := (List.getElem?_eq_some_iff.1 hi).1; have h2 := h.rd.len; omega
  obtain ⟨ar, xr, rfl, _, hxr, hr0, hr1, hr2⟩ := h.rd.at_ hin
  have hxr2 : xr = (wr_, mv, nx) := by rw [hi] at hxr; injection hxr with hxr; exact hxr.symm
  subst hxr2
  obtain ⟨ad, x0, rfl, hab, hx0, hc0⟩ := hx.at_ (k := 0) (by omega)
  obtain ⟨ad', x1, e1, _, hx1, hc1⟩ := hx.at_ (k := 1) (by omega)
  injection e1 with e1; subst e1
  have ea : ad.add 0 = ad := by simp [Addr.add]
  have eb : ad.add 1 = ⟨ad.block, ad.off + 1, none⟩ := by simp [Addr.add]
  rw [ea] at hc0; rw [eb] at hc1
  have g0 := getD_at hx0; have g1 := getD_at hx1
  have hat := hok.at0; have hout := hok.out; have hins := hok.ins
  rw [g0, hx.len] at hat hout hins
  rw [g1] at hout hins
  obtain ⟨R, hR⟩ : ∃ R, (if (wr_, mv, nx) = noneR then none else segBack x ((i : Int) / sy) ((i : Int) % sy) (wr_, mv, nx)) = R := ⟨_, rfl⟩
  rw [hR]
  have HRR := Lib.hid hR
  have m0 := h.c0; have m2 := h.c2
  have H := Lib.hid h; have HX := Lib.hid hx
  have vn : IntKind.i64.wrap ((n : Int) - 2) = (n : Int) - 2 := IntWalk.i64_in _ (by omega)
  clear hxr h hx hi
  go_enter Try.func99, Try.ntmps99
  go_wp2_with fail
  obtain ⟨wn, hwn⟩ : ∃ wn, w.alloc (.cells #[i64 wr_, i64 mv, i64 nx] 142) = wn := ⟨_, rfl⟩
  rw [hwn]
  have XB := Lib.hid (show Blk wn w.heap.size 142 #[i64 wr_, i64 mv, i64 nx] by rw [← hwn]; exact Blk.new w _ _)
  have EB := Lib.hid (show Below w.heap.size w wn by rw [← hwn]; exact below_size.alloc (Nat.le_refl _) _)
  clear hwn hr0 hr1 hr2
  have b0 := XB.out.cell 0; have b1 := XB.out.cell 1; have b2 := XB.out.cell 2
  simp at b0 b1 b2
  have y0 := Ext.cell b0; have y1 := Ext.cell b1; have y2 := Ext.cell b2
  rcases rule_cases wr_ mv nx with ⟨hnon, hp0, hp1, hp2⟩ | ⟨hnon, hne'⟩
  · have HF := Lib.hid (show R = none by rw [← HRR.out, if_pos hnon])
    subst hp0; subst hp1; subst hp2
    clear hnon b0 b1 b2 hR
    refine Mix.wp_region_mix [3, 1, 0] (fun w' => ∃ x : Ext wn, w' = x.w) (by kernel_rfl) (by kernel_rfl) (InExt.drew _) ?_
    repeat (first | (refine Mix.wpMix_read (by rfl) ?_; go_big_quiet_step (fail); refine wpQuiet_nil ?_) | (refine Mix.wpMix_pure (by rfl) ?_; go_big_quiet_step (fail); refine wpQuiet_nil ?_))
    refine Mix.wpMix_chg (by rfl) (fun K hK => ?_)
    go_wp2_with fail
    refine (l05None_c _).mono ?_
    rintro e w3 ⟨rfl, hb⟩
    have em := below_of_drew hb
    go_wp2_with fail
    refine hK _ _ ⟨⟨_, em⟩, rfl⟩ ?_
    clear hK K
    repeat (first | (refine Mix.wpMix_read (by rfl) ?_; go_big_quiet_step (fail); refine wpQuiet_nil ?_) | (refine Mix.wpMix_pure (by rfl) ?_; go_big_quiet_step (fail); refine wpQuiet_nil ?_))
    (refine Mix.wpMix_nil ?_; try simp only [Exit.then])
    go_wp2_with fail
    go_ret2
    rw [HF.out]
    exact SegOut.bad (below_chain EB.out EB.out.size em)
  have hne2 := rule_ne wr_ mv nx hne'
  obtain ⟨hwr, hmv, hnx⟩ := hr.resolve_left hnon |>.2
  obtain ⟨hh, hhd⟩ : ∃ hh, x0 - mv = hh := ⟨_, rfl⟩
  have HR := Lib.hid (show R = if (0 ≤ x1 ∧ nx ≠ x1) ∨ hh < -1 ∨ (n : Int) - 2 < hh then none else if hh = -1 ∨ hh = (n : Int) - 2 then (if 0 ≤ x1 then some (segNode x hh (-1) 0) else none) else if x.getD (2 + hh).toNat 0 = wr_ ∨ x.getD (2 + hh).toNat 0 = -1 then some (segNode x hh ((i : Int) / sy) ((i : Int) % sy)) else none by
    rw [← HRR.out, if_neg hnon, segBack, g0, g1, HL.out, hhd])
  clear hne' b0 b1 b2 hR hr hnon
  refine Mix.wp_region_mix [3, 1, 0] (fun w' => ∃ x : Ext wn, w' = x.w) (by kernel_rfl) (by kernel_rfl) (InExt.drew _) ?_
  repeat (first | (refine Mix.wpMix_read (by rfl) ?_; go_big_quiet_step (fail); refine wpQuiet_nil ?_) | (refine Mix.wpMix_pure (by rfl) ?_; go_big_quiet_step (fail); refine wpQuiet_nil ?_))
  refine Mix.wpMix_chg (by rfl) (fun K hK => ?_)
  go_wp2_with fail
  refine (l05None_c _).mono ?_
  rintro e w3 ⟨rfl, hb⟩
  have em := below_of_drew hb
  go_wp2_with fail
  refine hK _ _ ⟨⟨_, em⟩, rfl⟩ ?_
  clear hK K
  repeat (first | (refine Mix.wpMix_read (by rfl) ?_; go_big_quiet_step (fail); refine wpQuiet_nil ?_) | (refine Mix.wpMix_pure (by rfl) ?_; go_big_quiet_step (fail); refine wpQuiet_nil ?_))
  (refine Mix.wpMix_nil ?_; try simp only [Exit.then])
  clear hne2 y0 y1 y2
  have X3 := Lib.hid (XB.out.keep em); have B3 := Lib.hid (below_chain EB.out EB.out.size em)
  have M3 := Lib.hid (H.out.below B3.out); have HX3 := Lib.hid (HX.out.below B3.out)
  have d0 := keepc B3.out hc0; have d1 := keepc B3.out hc1
  have c0 := X3.out.cell 0; have c1 := X3.out.cell 1; have c2 := X3.out.cell 2
  simp at c0 c1 c2
  have hhb : -2 ≤ hh ∧ hh ≤ (n : Int) - 1 := by omega
  have vh : IntKind.i64.wrap (x0 - mv) = hh := (IntWalk.i64_in _ (by omega)).trans hhd
  have vs : IntKind.i64.wrap ((n : Int) - 2 - 1) = (n : Int) - 3 := (IntWalk.i64_in _ (by omega)).trans (by omega)
  have HZ := Lib.hid em.size
  clear em hb hx0 hx1 ea eb hc0 hc1 m0 m2
  have hcase : (x0 < 0 ∧ x1 = -1 ∧ x0 = -1) ∨ (0 ≤ x0 ∧ x0 = (n : Int) - 2 ∧ x1 = -1) ∨ (0 ≤ x0 ∧ x0 < (n : Int) - 2 ∧ 0 ≤ x1) := by
    by_cases h1 : x0 = -1
    · exact .inl ⟨by omega, hout (.inl h1), h1⟩
    · by_cases h2 : x0 = (n : Int) - 2
      · exact .inr (.inl ⟨by omega, h2, hout (.inr h2)⟩)
      · exact .inr (.inr ⟨by omega, by omega, (hins h1 h2).1⟩)
  have kcase : decide (x0 < 0) = true ∨ (decide (x0 < 0) = false ∧ (x0 == (n : Int) - 2) = true) ∨ (decide (x0 < 0) = false ∧ (x0 == (n : Int) - 2) = false) := by
    rcases hcase with ⟨h1, _⟩ | ⟨h1, h2, _⟩ | ⟨h1, h2, _⟩
    · exact .inl (decide_eq_true h1)
    · exact .inr (.inl ⟨by simpa using h1, by simpa using h2⟩)
    · exact .inr (.inr ⟨by simpa using h1, by simp; omega⟩)
  have HC := Lib.hid hcase; have HMV := Lib.hid hmv; have HHD := Lib.hid hhd
  obtain ⟨u, hu⟩ : ∃ u, inB hh 0 ((n : Int) - 3) = u := ⟨_, rfl⟩
  have HU := Lib.hid hu
  clear hcase hmv hhd hins hout
  rcases kcase with k1 | ⟨k1, k2⟩ | ⟨k1, k2⟩
  iterate 2
    · have HK1 := Lib.hid k1
      cases u
      · have HF := Lib.hid (show R = none by
          have h1 := HC.out; have h2 := HMV.out; have h3 := HHD.out
          have h4 : ¬ (0 ≤ hh ∧ hh ≤ (n : Int) - 3) := fun h => by have := HU.out; rw [inB_of h.1 h.2] at this; cases this
          rw [HR.out, if_pos]
          first
            | (have h5 := of_decide_eq_true HK1.out; omega)
            | (have h5 := of_decide_eq_false HK1.out; simp at k2; omega))
        go_wp2_with fail
        go_quiet (fail)
        go_wp2_with fail
        go_quiet (first | (go_at_call 69; first | exact quiet_left (l00In_b _ _ _ _ hu _) | exact quiet_add_left (l00In_b _ _ _ _ hu _)))
        go_wp2_with fail
        go_ret2
        rw [HF.out]
        exact SegOut.bad (below_drewN (below_drewN B3.out _) _)
      · skip
        have hu2 := inB_t HU.out
        obtain ⟨hN, rfl⟩ := Int.eq_ofNat_of_zero_le hu2.1
        have hN2 : 2 + hN < n := by omega
        obtain ⟨ad', xv, e1, _, hxv, hcv⟩ := HX3.out.at_ (k := 2 + hN) hN2
        injection e1 with e1; subst e1
        have HF2 := Lib.hid (show R = if xv = wr_ ∨ xv = -1 then some (segNode x hN ((i : Int) / sy) ((i : Int) % sy)) else none by
          have h1 := HC.out; have h2 := HMV.out; have h3 := HHD.out
          rw [HR.out, if_neg (by first | (have h5 := of_decide_eq_true HK1.out; omega) | (have h5 := of_decide_eq_false HK1.out; simp at k2; omega)), if_neg (by omega), show (2 + (hN : Int)).toNat = 2 + hN by omega, getD_at hxv])
        have hxb := Lib.hid (show -1 ≤ xv by have := (hok.all (2 + hN) (by omega) (by rw [HL.out]; exact hN2)).1; rw [getD_at hxv] at this; exact this)
        have va : IntKind.i64.wrap (2 + (hN : Int)) = ((2 + hN : Nat) : Int) := (IntWalk.i64_in _ (by omega)).trans (by omega)
        have k6 : ((hN : Int) == (n : Int) - 2) = false := by simp; omega
        clear hu2
        go_wp2_with fail
        go_quiet (fail)
        go_wp2_with fail
        go_quiet (first | (go_at_call 69; first | exact quiet_left (l00In_b _ _ _ _ hu _) | exact quiet_add_left (l00In_b _ _ _ _ hu _)))
        go_wp2_with fail
        refine (l00Own_c (some ad) n c x _ (by exact HX3.out) (by omega) (by omega)).mono ?_
        rintro e w5 ⟨ao, cap, rfl, hw, hb⟩
        have hz3 := B3.out.size
        have HZ5 := Lib.hid (show w3.heap.size ≤ w5.heap.size from hb.size)
        have B5 := Lib.hid (below_chain (below_drewN B3.out _) (by exact hz3) hb)
        have hxl := XB.out.lt
        have hz1 : wn.heap.size ≤ w3.heap.size := HZ.out
        have hao : w3.heap.size ≤ ao.block := by obtain ⟨a1, v1, e1, h1, _⟩ := hw.at_ (k := 0) (by omega); injection e1 with e1; subst e1; exact h1
        have X5 := (show Blk w5 w.heap.size 142 #[i64 wr_, i64 mv, i64 nx] from Blk.keep (w := w3.drewN _) X3.out hb)
        have m5 : w5.cell? ⟨g, 0, none⟩ = some (i64 sy) := keepc (W := w3.drewN _) hb M3.out.c0
        have hgl : g < w.heap.size := World.block_lt_of_cell? w _ H.out.c0
        have hW6 := hw.set (k := 0) (by omega) (i64 (hN : Int))
        obtain ⟨a0, v0, e0, _, _, _, _, hc0, hf0⟩ := hw.at_ (k := 0) (by omega)
        injection e0 with e0; subst e0
        have ea : ao.add 0 = ao := by simp [Addr.add]
        have eb : ao.add 1 = ⟨ao.block, ao.off + 1, none⟩ := by simp [Addr.add]
        rw [ea] at hc0 hf0 hW6
        have X6 := X5.far (p := ao) (by omega) (i64 (hN : Int))
        have q0 := X6.cell 0
        simp at q0
        have m6 : (w5.setCell ao (i64 (hN : Int))).cell? ⟨g, 0, none⟩ = some (i64 sy) := by rw [World.cell?_setCell_other _ _ _ _ (fun e => by have := congrArg Addr.block e; simp at this; omega)]; exact m5
        obtain ⟨a0, v2, e0, _, _, _, hv2, hc2, hf2⟩ := hW6.at_ (k := 2 + hN) hN2
        injection e0 with e0; subst e0
        have hv2' : v2 = i64 xv := by rw [List.getElem?_set_ne (by omega), List.getElem?_map, hxv] at hv2; injection hv2 with hv2; exact hv2.symm
        subst hv2'
        have hW7 := hW6.set (k := 1) (by omega) (i64 ((i : Int) / sy))
        obtain ⟨a0, v1, e0, _, _, _, _, hc1', hf1⟩ := hW6.at_ (k := 1) (by omega)
        injection e0 with e0; subst e0
        rw [eb] at hc1' hf1 hW7
        have m7 : ∀ k : Nat, (((w5.setCell ao (i64 (hN : Int))).drewN k).setCell ⟨ao.block, ao.off + 1, none⟩ (i64 ((i : Int) / sy))).cell? ⟨g, 0, none⟩ = some (i64 sy) := fun k => by rw [World.cell?_setCell_other _ _ _ _ (fun e => by have := congrArg Addr.block e; simp at this; omega)]; exact m6
        have hW8 := hW7.set (k := 2 + hN) hN2 (i64 ((i : Int) % sy))
        have hq3 : ∀ k : Nat, ∃ v, (((w5.setCell ao (i64 (hN : Int))).drewN k).setCell ⟨ao.block, ao.off + 1, none⟩ (i64 ((i : Int) / sy))).cell? (ao.add (2 + hN)) = some v ∧ (((w5.setCell ao (i64 (hN : Int))).drewN k).setCell ⟨ao.block, ao.off + 1, none⟩ (i64 ((i : Int) / sy))).frozen? (ao.add (2 + hN)) = false := fun k => by
          have hh7 := (hW6.below (below_drewN below_size k)).set (k := 1) (by omega) (i64 ((i : Int) / sy))
          rw [eb] at hh7
          obtain ⟨a0, v3, e0, _, _, _, _, h1, h2⟩ := hh7.at_ (k := 2 + hN) hN2
          injection e0 with e0; subst e0
          exact ⟨v3, h1, h2⟩
        obtain ⟨v3, hq3'⟩ := Classical.skolem.1 hq3
        have hc3 := fun k => (hq3' k).1
        have hf3 := fun k => (hq3' k).2
        have hw5 : w3.heap.size ≤ w5.heap.size := HZ5.out
        rw [← List.map_set, ← List.map_set, ← List.map_set] at hW8
        have W8 := Lib.hid (fun (k : Nat) => (((hW6.below (below_drewN below_size k)).set (k := 1) (by omega) (i64 ((i : Int) / sy))).set (k := 2 + hN) hN2 (i64 ((i : Int) % sy))))
        simp only [eb, ← List.map_set] at W8
        have B6 := Lib.hid (B5.out.setCell (p := ao) (by omega) (i64 (hN : Int)))
        have B8 := Lib.hid (fun (k : Nat) => ((below_drewN B6.out k).setCell (p := ⟨ao.block, ao.off + 1, none⟩) (by show _ ≤ ao.block; omega) (i64 ((i : Int) / sy))).setCell (p := ao.add (2 + hN)) (by rw [block_add]; omega) (i64 ((i : Int) % sy)))
        have vd : wrap64 ((i : Int) / sy) = (i : Int) / sy := by unfold wrap64; have := div_bd hsy hin hnr; omega
        have kk : (decide (0 ≤ xv) = true ∧ (xv != wr_) = true ∧ ¬ (xv = wr_ ∨ xv = -1)) ∨ (decide (0 ≤ xv) = true ∧ (xv != wr_) = false ∧ (xv = wr_ ∨ xv = -1)) ∨ (decide (0 ≤ xv) = false ∧ (xv = wr_ ∨ xv = -1)) := by
          have := hxb.out
          by_cases h1 : 0 ≤ xv
          · by_cases h2 : xv = wr_
            · exact .inr (.inl ⟨decide_eq_true h1, by simpa using h2, .inl h2⟩)
            · exact .inl ⟨decide_eq_true h1, by simpa using h2, by omega⟩
          · exact .inr (.inr ⟨decide_eq_false h1, by omega⟩)
        clear hw hb hxv ea eb hW6 hW7 hW8 hq3 hq3' X5 X6 hv2 d0 d1 c0 c1 c2 m5
        rcases kk with ⟨k7, k8, k9⟩ | ⟨k7, k8, k9⟩ | ⟨k7, k9⟩
        all_goals
          have HK9 := Lib.hid k9
          clear k9
          go_wp2_with fail
          go_quiet (fail)
          go_wp2_with fail
          all_goals
            go_ret2
            rw [HF2.out]
            first
              | (rw [if_neg HK9.out]; exact SegOut.bad (below_drewN B6.out _))
              | (rw [if_pos HK9.out]; exact ⟨some ao, n, cap, rfl, (fun y hy => by injection hy with hy; subst hy; exact ⟨ao, rfl, by rw [segNode_len, HL.out], (segN_wr HL.out hN2 (W8.out _)).wider (by show _ ≤ w3.heap.size; omega) (by simp)⟩), B8.out _⟩)
  have hx1 := Lib.hid (show 0 ≤ x1 by have h1 := HC.out; have h5 := of_decide_eq_false k1; simp at k2; omega)
  by_cases hnx1 : nx = x1
  case neg =>
    have HF := Lib.hid (show R = none by rw [HR.out, if_pos (.inl ⟨hx1.out, hnx1⟩)])
    have k3 : (nx != x1) = true := by simpa using hnx1
    clear hnx1 hu
    go_wp2_with fail
    go_quiet (fail)
    go_wp2_with fail
    go_quiet (fail)
    go_wp2_with fail
    go_ret2
    rw [HF.out]
    exact SegOut.bad (below_drewN (below_drewN B3.out _) _)
  have k3 : (nx != x1) = false := by simpa using hnx1
  have HNX := Lib.hid hnx1
  clear hnx1
  cases u
  · have HE := Lib.hid (show hh = -1 ∨ hh = (n : Int) - 2 by
      have h1 := HC.out; have h2 := HMV.out; have h3 := HHD.out; have h5 := of_decide_eq_false k1; simp at k2
      have h4 : ¬ (0 ≤ hh ∧ hh ≤ (n : Int) - 3) := fun h => by have := HU.out; rw [inB_of h.1 h.2] at this; cases this
      omega)
    have HF := Lib.hid (show R = some (segNode x hh (-1) 0) by
      have h6 := HNX.out; have h7 := HE.out
      rw [HR.out, if_neg (by omega), if_pos HE.out, if_pos hx1.out])
    have HS := Lib.hid (show segNode x hh (-1) 0 = (x.set 0 hh).set 1 (-1) by unfold segNode; rw [HL.out, HU.out]; rfl)
    have kk : decide (hh < 0) = true ∨ (decide (hh < 0) = false ∧ (hh == (n : Int) - 2) = true) := by
      rcases HE.out with h1 | h1
      · exact .inl (by simp [h1])
      · exact .inr ⟨by simp; omega, by simpa using h1⟩
    clear hu
    rcases kk with k5 | ⟨k5, k6⟩
    all_goals
      go_wp2_with fail
      go_quiet (fail)
      go_wp2_with fail
      go_quiet (fail)
      go_wp2_with fail
      refine (l00Own_c (some ad) n c x _ (by exact HX3.out) (by omega) (by omega)).mono ?_
      rintro e w5 ⟨ao, cap, rfl, hw, hb⟩
      have hz3 := B3.out.size
      have B5 := Lib.hid (below_chain (below_drewN B3.out _) (by exact hz3) hb)
      have hao : w3.heap.size ≤ ao.block := by obtain ⟨a1, v1, e1, h1, _⟩ := hw.at_ (k := 0) (by omega); injection e1 with e1; subst e1; exact h1
      have hW6 := hw.set (k := 0) (by omega) (i64 hh)
      obtain ⟨a0, v0, e0, _, _, _, _, hc0, hf0⟩ := hw.at_ (k := 0) (by omega)
      injection e0 with e0; subst e0
      have ea : ao.add 0 = ao := by simp [Addr.add]
      have eb : ao.add 1 = ⟨ao.block, ao.off + 1, none⟩ := by simp [Addr.add]
      rw [ea] at hc0 hf0 hW6
      have hW7 := hW6.set (k := 1) (by omega) (i64 (-1))
      obtain ⟨a0, v1, e0, _, _, _, _, hc1', hf1⟩ := hW6.at_ (k := 1) (by omega)
      injection e0 with e0; subst e0
      rw [eb] at hc1' hf1 hW7
      rw [← List.map_set, ← List.map_set] at hW7
      have W7 := Lib.hid hW7
      have B7 := Lib.hid ((B5.out.setCell (p := ao) (by omega) (i64 hh)).setCell (p := ⟨ao.block, ao.off + 1, none⟩) (by show _ ≤ ao.block; omega) (i64 (-1)))
      clear hw hb ea eb hW6 hW7
      go_wp2_with fail
      go_ret2
      rw [HF.out]
      exact ⟨some ao, n, cap, rfl, (fun y hy => by injection hy with hy; subst hy; exact ⟨ao, rfl, by rw [segNode_len, HL.out], by rw [HS.out]; exact W7.out.wider (by show _ ≤ w3.heap.size; omega) (by simp)⟩), B7.out⟩
  · skip
    have hu2 := inB_t HU.out
    obtain ⟨hN, rfl⟩ := Int.eq_ofNat_of_zero_le hu2.1
    have hN2 : 2 + hN < n := by omega
    obtain ⟨ad', xv, e1, _, hxv, hcv⟩ := HX3.out.at_ (k := 2 + hN) hN2
    injection e1 with e1; subst e1
    have HF2 := Lib.hid (show R = if xv = wr_ ∨ xv = -1 then some (segNode x hN ((i : Int) / sy) ((i : Int) % sy)) else none by
      have h1 := HC.out; have h2 := HMV.out; have h3 := HHD.out
      rw [HR.out, if_neg (by have h6 := HNX.out; omega), if_neg (by omega), show (2 + (hN : Int)).toNat = 2 + hN by omega, getD_at hxv])
    have hxb := Lib.hid (show -1 ≤ xv by have := (hok.all (2 + hN) (by omega) (by rw [HL.out]; exact hN2)).1; rw [getD_at hxv] at this; exact this)
    have va : IntKind.i64.wrap (2 + (hN : Int)) = ((2 + hN : Nat) : Int) := (IntWalk.i64_in _ (by omega)).trans (by omega)
    have k6 : ((hN : Int) == (n : Int) - 2) = false := by simp; omega
    clear hu2
    go_wp2_with fail
    go_quiet (fail)
    go_wp2_with fail
    go_quiet (fail)
    go_wp2_with fail
    refine (l00Own_c (some ad) n c x _ (by exact HX3.out) (by omega) (by omega)).mono ?_
    rintro e w5 ⟨ao, cap, rfl, hw, hb⟩
    have hz3 := B3.out.size
    have HZ5 := Lib.hid (show w3.heap.size ≤ w5.heap.size from hb.size)
    have B5 := Lib.hid (below_chain (below_drewN B3.out _) (by exact hz3) hb)
    have hxl := XB.out.lt
    have hz1 : wn.heap.size ≤ w3.heap.size := HZ.out
    have hao : w3.heap.size ≤ ao.block := by obtain ⟨a1, v1, e1, h1, _⟩ := hw.at_ (k := 0) (by omega); injection e1 with e1; subst e1; exact h1
    have X5 := (show Blk w5 w.heap.size 142 #[i64 wr_, i64 mv, i64 nx] from Blk.keep (w := w3.drewN _) X3.out hb)
    have m5 : w5.cell? ⟨g, 0, none⟩ = some (i64 sy) := keepc (W := w3.drewN _) hb M3.out.c0
    have hgl : g < w.heap.size := World.block_lt_of_cell? w _ H.out.c0
    have hW6 := hw.set (k := 0) (by omega) (i64 (hN : Int))
    obtain ⟨a0, v0, e0, _, _, _, _, hc0, hf0⟩ := hw.at_ (k := 0) (by omega)
    injection e0 with e0; subst e0
    have ea : ao.add 0 = ao := by simp [Addr.add]
    have eb : ao.add 1 = ⟨ao.block, ao.off + 1, none⟩ := by simp [Addr.add]
    rw [ea] at hc0 hf0 hW6
    have X6 := X5.far (p := ao) (by omega) (i64 (hN : Int))
    have q0 := X6.cell 0
    simp at q0
    have m6 : (w5.setCell ao (i64 (hN : Int))).cell? ⟨g, 0, none⟩ = some (i64 sy) := by rw [World.cell?_setCell_other _ _ _ _ (fun e => by have := congrArg Addr.block e; simp at this; omega)]; exact m5
    obtain ⟨a0, v2, e0, _, _, _, hv2, hc2, hf2⟩ := hW6.at_ (k := 2 + hN) hN2
    injection e0 with e0; subst e0
    have hv2' : v2 = i64 xv := by rw [List.getElem?_set_ne (by omega), List.getElem?_map, hxv] at hv2; injection hv2 with hv2; exact hv2.symm
    subst hv2'
    have hW7 := hW6.set (k := 1) (by omega) (i64 ((i : Int) / sy))
    obtain ⟨a0, v1, e0, _, _, _, _, hc1', hf1⟩ := hW6.at_ (k := 1) (by omega)
    injection e0 with e0; subst e0
    rw [eb] at hc1' hf1 hW7
    have m7 : ∀ k : Nat, (((w5.setCell ao (i64 (hN : Int))).drewN k).setCell ⟨ao.block, ao.off + 1, none⟩ (i64 ((i : Int) / sy))).cell? ⟨g, 0, none⟩ = some (i64 sy) := fun k => by rw [World.cell?_setCell_other _ _ _ _ (fun e => by have := congrArg Addr.block e; simp at this; omega)]; exact m6
    have hW8 := hW7.set (k := 2 + hN) hN2 (i64 ((i : Int) % sy))
    have hq3 : ∀ k : Nat, ∃ v, (((w5.setCell ao (i64 (hN : Int))).drewN k).setCell ⟨ao.block, ao.off + 1, none⟩ (i64 ((i : Int) / sy))).cell? (ao.add (2 + hN)) = some v ∧ (((w5.setCell ao (i64 (hN : Int))).drewN k).setCell ⟨ao.block, ao.off + 1, none⟩ (i64 ((i : Int) / sy))).frozen? (ao.add (2 + hN)) = false := fun k => by
      have hh7 := (hW6.below (below_drewN below_size k)).set (k := 1) (by omega) (i64 ((i : Int) / sy))
      rw [eb] at hh7
      obtain ⟨a0, v3, e0, _, _, _, _, h1, h2⟩ := hh7.at_ (k := 2 + hN) hN2
      injection e0 with e0; subst e0
      exact ⟨v3, h1, h2⟩
    obtain ⟨v3, hq3'⟩ := Classical.skolem.1 hq3
    have hc3 := fun k => (hq3' k).1
    have hf3 := fun k => (hq3' k).2
    have hw5 : w3.heap.size ≤ w5.heap.size := HZ5.out
    rw [← List.map_set, ← List.map_set, ← List.map_set] at hW8
    have W8 := Lib.hid (fun (k : Nat) => (((hW6.below (below_drewN below_size k)).set (k := 1) (by omega) (i64 ((i : Int) / sy))).set (k := 2 + hN) hN2 (i64 ((i : Int) % sy))))
    simp only [eb, ← List.map_set] at W8
    have B6 := Lib.hid (B5.out.setCell (p := ao) (by omega) (i64 (hN : Int)))
    have B8 := Lib.hid (fun (k : Nat) => ((below_drewN B6.out k).setCell (p := ⟨ao.block, ao.off + 1, none⟩) (by show _ ≤ ao.block; omega) (i64 ((i : Int) / sy))).setCell (p := ao.add (2 + hN)) (by rw [block_add]; omega) (i64 ((i : Int) % sy)))
    have vd : wrap64 ((i : Int) / sy) = (i : Int) / sy := by unfold wrap64; have := div_bd hsy hin hnr; omega
    have kk : (decide (0 ≤ xv) = true ∧ (xv != wr_) = true ∧ ¬ (xv = wr_ ∨ xv = -1)) ∨ (decide (0 ≤ xv) = true ∧ (xv != wr_) = false ∧ (xv = wr_ ∨ xv = -1)) ∨ (decide (0 ≤ xv) = false ∧ (xv = wr_ ∨ xv = -1)) := by
      have := hxb.out
      by_cases h1 : 0 ≤ xv
      · by_cases h2 : xv = wr_
        · exact .inr (.inl ⟨decide_eq_true h1, by simpa using h2, .inl h2⟩)
        · exact .inl ⟨decide_eq_true h1, by simpa using h2, by omega⟩
      · exact .inr (.inr ⟨decide_eq_false h1, by omega⟩)
    clear hw hb hxv ea eb hW6 hW7 hW8 hq3 hq3' X5 X6 hv2 d0 d1 c0 c1 c2 m5
    rcases kk with ⟨k7, k8, k9⟩ | ⟨k7, k8, k9⟩ | ⟨k7, k9⟩
    all_goals
      have HK9 := Lib.hid k9
      clear k9
      go_wp2_with fail
      go_quiet (fail)
      go_wp2_with fail
      all_goals
        go_ret2
        rw [HF2.out]
        first
          | (rw [if_neg HK9.out]; exact SegOut.bad (below_drewN B6.out _))
          | (rw [if_pos HK9.out]; exact ⟨some ao, n, cap, rfl, (fun y hy => by injection hy with hy; subst hy; exact ⟨ao, rfl, by rw [segNode_len, HL.out], (segN_wr HL.out hN2 (W8.out _)).wider (by show _ ≤ w3.heap.size; omega) (by simp)⟩), B8.out _⟩)
end Go.Proofs.Ytfahdgmlhinabaa
