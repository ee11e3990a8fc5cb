/-
  Contracts of chapter 27 (bouncers): the program's shift.
-/
import Derived.Test.YtdnicjeadpefnaaC27b
namespace Go.Proofs.Ytdnicjeadpefnaa
open Go.RowKit

set_option maxHeartbeats 4000000 in
set_option maxRecDepth 100000 in
theorem shiftOver_c (sy st : Int) (A : Option Addr) (n cp : Nat) (rs : List Rule3) (state side : Int) (A' : Option Addr) (m c' : Nat) (ws : List Int) (w : World) (h : Rd3 w A n rs) (hm : machB sy st rs = true)
    (hn : n ≤ 2000000) (h' : RdI w A' m ws) (h0 : 0 < m) (hm4 : m ≤ 400) (hst : 0 ≤ state ∧ state ≤ st - 1) (hws : ∀ x ∈ ws, 0 ≤ x ∧ x ≤ sy - 1) (hside : side = 1 ∨ side = -1) :
    Calls Try.prog 85 #[.agg #[.int .i64 sy, .int .i64 st, .slice A n cp], .int .i64 state, .slice A' m c', .int .i64 side] w (ShOut (shGo rs sy state side 200 0 state (shStart side ws.length) ws) w) := by
  have HL := Lib.hid h.len
  have HL' := Lib.hid h'.len
  obtain ⟨w0, hw0⟩ : ∃ w0, w.alloc (.cells #[i64 sy, i64 st, .slice A n cp] 31) = w0 := ⟨_, rfl⟩
  have H := Lib.hid (show MachP w0 w.heap.size sy st A n cp rs by rw [← hw0]; exact ⟨new_cell _ _ _ 0, new_cell _ _ _ 1, new_cell _ _ _ 2, h.alloc _⟩)
  have B00 := Lib.hid (show Below w.heap.size w w0 by rw [← hw0]; exact below_size.alloc (Nat.le_refl _) _)
  have h'0 : RdI w0 A' m ws := by rw [← hw0]; exact Rd.alloc h' _
  have HM := Lib.hid hm; have HW := Lib.hid hws
  clear h hm hws
  obtain ⟨k0, hk0, hk1⟩ : ∃ k0 : Nat, shStart side m = k0 ∧ k0 < m := ⟨_, rfl, by unfold shStart; split <;> omega⟩
  obtain ⟨R, hR⟩ : ∃ R, shGo rs sy state side 200 0 state (shStart side ws.length) ws = R := ⟨_, rfl⟩
  rw [hR]
  have HR := Lib.hid (show R = shGo rs sy state side 200 0 state k0 ws by rw [← hR, HL'.out, hk0]); clear hR
  have hsd : (side = 1 ∧ k0 = 0) ∨ (side = -1 ∧ k0 = m - 1) := by
    rcases hside with h | h
    · exact .inl ⟨h, by rw [← hk0, h]; rfl⟩
    · exact .inr ⟨h, by rw [← hk0, h]; rfl⟩
  have HSD := Lib.hid hsd
  clear hsd hk0 hside
  go_enter Try.func85, Try.ntmps85
  go_wp2_with fail
  refine (cloneI_c _ _ _ ws _ h'0 h0 (by omega)).mono ?_
  rintro e w1 ⟨ao, cap, rfl, ho, hb⟩
  have OW := Lib.hid ho
  have B1 := Lib.hid hb
  clear ho hb h' h'0 hw0
  have hw00 := B00.out.size
  have hw1 : w0.heap.size ≤ w1.heap.size := B1.out.size
  rcases HSD.out with ⟨hs1, hs2⟩ | ⟨hs1, hs2⟩
  all_goals
    subst hs1
    have HK := Lib.hid hs2; clear hs2
    go_wp2_with (go_at_call 103; refine (sizeI_c _ _ _ _ (by omega)).mono ?_; rintro e w' ⟨rfl, rfl⟩)
    go_loopw [12, 13, 14] (fun kv qv nv wr => ∃ (nn f k : Nat) (q : Int) (out : List Int), kv = .int .i64 k ∧ qv = .int .i64 q ∧ nv = .int .i64 nn ∧ f + nn = 200 ∧ k < m ∧ (0 ≤ q ∧ q ≤ st - 1) ∧ Hid (out.length = m) ∧ Hid (∀ x ∈ out, 0 ≤ x ∧ x ≤ sy - 1) ∧ Hid (R = shGo rs sy state _ f nn q k out) ∧ Hid (Wr wr w0.heap.size w1.heap.size (some ao) m (out.map i64)) ∧ Hid (Below w0.heap.size w0 wr) ∧ w1.heap.size ≤ wr.heap.size) (fun _ _ nv _ => 200 - (intOf nv).toNat)
    case atStart => exact ⟨0, 200, k0, state, ws, (by first | rw [HK.out]; rfl | (rw [HK.out]; go_num) | (simp [HK.out]; omega)), rfl, rfl, by omega, hk1, hst, HL'.out, HW.out, HR.out, OW.out, B1.out, Nat.le_refl _⟩
    case round =>
      obtain ⟨nn, f, k, q, out, rfl, rfl, rfl, hfn, hk, hq, hol, hoi, hr, hW, hB, hz⟩ := hrel
      by_cases hlt : nn < 200
      · obtain ⟨ao', cc, eo, hab, hy, hcy⟩ := hW.out.rdI.at_ hk
        injection eo with eo; subst eo
        have hfz : wr.frozen? (ao.add k) = false := by
          obtain ⟨a, v, e, _, _, _, _, _, hf⟩ := hW.out.at_ hk
          injection e with e; subst e; exact hf
        have hcr := hoi.out cc (List.mem_of_getElem? hy)
        obtain ⟨j, x, hj, hm0, hm1, hx, hxr, hxc⟩ := rule_find HM.out hq hcr
        have hP := H.out.below hB.out
        have hjn : j < n := by have h1 := (List.getElem?_eq_some_iff.1 hx).1; have h2 := HL.out; omega
        obtain ⟨ad, x2, rfl, _, hx2, hc0, hc1, hc2⟩ := hP.rd.at_ hjn
        have hx3 : x2 = x := by rw [hx] at hx2; injection hx2 with hx2; exact hx2.symm
        subst hx3
        obtain ⟨p, mv, nx⟩ := x2
        have v1 : IntKind.i64.wrap (q * sy) = q * sy := IntWalk.i64_in _ (by omega)
        have v2 : IntKind.i64.wrap (q * sy + cc) = (j : Int) := (IntWalk.i64_in _ (by omega)).trans hj
        have h0' := hP.c0; have h2' := hP.c2
        have y0 := Ext.cell h0'; have y2 := Ext.cell h2'; have yc := Ext.cell hcy
        have z0 := Ext.cell hc0; have z1 := Ext.cell hc1; have z2 := Ext.cell hc2
        have HY := Lib.hid hy; have HXR := Lib.hid hxr
        have HXC := Lib.hid hxc
        clear hy hxr hxc hx hx2 hj hP h0' h2' hc0 hc1 hc2 hcy
        go_wp2_with fail
        refine Mix.wp_region_mix [0, 3, 0, 0, 3, 0, 0, 0, 0, 3, 0, 0, 3, 1, 2] (fun w' => ∃ x : Ext wr, w' = x.w) (by kernel_rfl) (by kernel_rfl) (InExt.drew _) ?_
        repeat (first | (refine Mix.wpMix_read (by rfl) ?_; go_big_quiet_step (fail); refine wpQuiet_nil ?_) | (refine Mix.wpMix_pure (by rfl) ?_; go_big_quiet_step (fail); refine wpQuiet_nil ?_))
        refine Mix.wpMix_chg (by rfl) (fun K hK => ?_)
        go_wp2_with fail
        refine hK _ _ ⟨⟨_, below_drew (below_size.alloc (Nat.le_refl _) _)⟩, rfl⟩ ?_
        clear hK K
        repeat (first | (refine Mix.wpMix_read (by rfl) ?_; go_big_quiet_step (fail); refine wpQuiet_nil ?_) | (refine Mix.wpMix_pure (by rfl) ?_; go_big_quiet_step (fail); refine wpQuiet_nil ?_))
        refine Mix.wpMix_tail (by rfl) (fun K hK => ?_)
        go_wp2_with fail
        refine hK _ _ ?_
        clear hK K
        (refine Mix.wpMix_nil ?_; try simp only [Exit.then])
        clear y0 y2 yc z0 z1 z2 v1 v2
        go_wp2_with fail
        obtain ⟨wn, hwn⟩ : ∃ wn, (wr.alloc (.cells #[i64 p, i64 mv, i64 nx] 127)).drew = wn := ⟨_, rfl⟩
        rw [hwn]
        have XB := Lib.hid (show Blk wn wr.heap.size 127 #[i64 p, i64 mv, i64 nx] by rw [← hwn]; exact (Blk.new wr _ _).drew)
        have EB := Lib.hid (show Below wr.heap.size wr wn by rw [← hwn]; exact below_drew (below_size.alloc (Nat.le_refl _) _))
        have BN := Lib.hid (hB.out.trans (EB.out.mono (Nat.le_trans hw1 hz)))
        clear hwn
        have b0 := XB.out.cell 0; have b1 := XB.out.cell 1; have b2 := XB.out.cell 2
        simp at b0 b1 b2
        have x0 := Ext.cell b0; have x1 := Ext.cell b1; have x2 := Ext.cell b2
        by_cases hnon : (p, mv, nx) = noneR
        · have HE := Lib.hid (show R = (([], 0), 6) by rw [hr.out, show f = f - 1 + 1 by omega, shGo_none HY.out (HXR.out.trans hnon)])
          have hd := decide_eq_true hnon
          clear hr hnon x0 x1 x2
          go_wp2_with fail
          refine (isRule_c _ _ _ _).mono ?_
          rintro e w2 ⟨rfl, em⟩
          rw [hd]
          clear hd
          have EM := Lib.hid em; clear em
          go_wp2_with fail
          go_ret3
          rw [HE.out]
          exact ShOut.bad _ (B00.out.trans ((below_chain BN.out BN.out.size EM.out).mono hw00))
        · have hd := decide_eq_false hnon
          clear x0 x1 x2
          go_wp2_with fail
          refine (isRule_c _ _ _ _).mono ?_
          rintro e w2 ⟨rfl, em⟩
          rw [hd]
          clear hd b0 b1 b2
          have hao : ao.block < w1.heap.size := by
            obtain ⟨a, v, e, _, h1, _⟩ := hW.out.at_ hk
            injection e with e; subst e; exact h1
          have X2 := Lib.hid (XB.out.keep em)
          have W2 := Lib.hid ((hW.out.below EB.out).below em)
          have hf2 : w2.frozen? (ao.add k) = false := by
            obtain ⟨a, v, e, _, _, _, _, _, hf⟩ := W2.out.at_ hk
            injection e with e; subst e; exact hf
          obtain ⟨ao2, cc2, eo2, _, _, hcy2⟩ := W2.out.rdI.at_ hk
          injection eo2 with eo2; subst eo2
          have b0 := X2.out.cell 0; simp at b0
          have X3 := Lib.hid (fun u => X2.out.far (p := ao.add k) (show wr.heap.size ≠ (ao.add k).block by rw [block_add]; omega) u)
          have b1 := fun u => (X3.out u).cell 1
          have b2 := fun u => (X3.out u).cell 2
          simp at b1 b2
          obtain ⟨hpr, hmv, hnx⟩ := HXC.out.resolve_left hnon |>.2
          have HS := Lib.hid (show Wr (w2.setCell (ao.add k) (i64 p)) w0.heap.size w1.heap.size (some ao) m ((out.set k p).map i64) by rw [List.map_set]; exact W2.out.set hk (i64 p))
          have hao0 : w0.heap.size ≤ ao.block := by
            obtain ⟨a, v, e, h1, _⟩ := hW.out.at_ hk
            injection e with e; subst e; exact h1
          have BS := Lib.hid (show Below w0.heap.size w0 (w2.setCell (ao.add k) (i64 p)) from (below_chain BN.out BN.out.size em).setCell (p := ao.add k) (by rw [block_add]; exact hao0) _)
          have hz2 : w1.heap.size ≤ (w2.setCell (ao.add k) (i64 p)).heap.size := by
            have h1 := em.size; have h2 := EB.out.size; simp; omega
          have HSI := Lib.hid (set_in (k := k) hoi.out hpr)
          have HSL := Lib.hid (show (out.set k p).length = m by rw [List.length_set]; exact hol.out)
          have hrf := Lib.hid (hr.out.trans (congrArg (fun f => shGo rs sy state _ f nn q k out) (show f = f - 1 + 1 by omega)))
          clear em
          by_cases hl : (k : Int) + mv < 0 ∨ (k : Int) + mv = m
          · have HE := Lib.hid (hrf.out.trans (shGo_out (n := nn) (f := f - 1) (state := state) HY.out HXR.out hnon (by rw [hol.out]; exact hl)))
            have va : IntKind.i64.wrap ((k : Int) + mv) = (k : Int) + mv := IntWalk.i64_in _ (by omega)
            have hin : inB ((k : Int) + mv) 0 ((m : Int) - 1) = false := inB_not (by omega)
            have HMV := Lib.hid hmv
            clear hl hr hrf hnon HXC hmv
            go_wp2_with fail
            go_quiet (fail)
            clear va
            go_wp2_with fail
            refine (sizeI_c _ _ _ _ (by omega)).mono ?_
            rintro e w' ⟨rfl, rfl⟩
            go_wp2_with fail
            refine (within_b _ _ _ _ hin _).mono ?_
            rintro e w' ⟨rfl, rfl⟩
            clear hin
            have BF := Lib.hid (B00.out.trans ((below_drewN BS.out nq).mono hw00))
            rcases HMV.out with hm1 | hm1
            all_goals
              subst hm1
              by_cases hns : nx = state
              · have hns' : (nx == state) = true := by simpa using hns
                have HNS := Lib.hid hns; clear hns
                go_wp2_with fail
                go_ret3
                rw [HE.out]
                first
                  | (rw [if_neg (by simp)]; exact ShOut.bad _ BF.out)
                  | (rw [if_pos ⟨HNS.out, by trivial⟩]; exact ⟨some ao, m, cap, by go_num, (HS.out.below (below_drewN below_size _)).wider hw00 hz2, by omega, BF.out⟩)
              · have hns' : (nx == state) = false := by simpa using hns
                have HNS := Lib.hid hns; clear hns
                go_wp2_with fail
                go_ret3
                rw [HE.out, if_neg (fun h => HNS.out h.1)]
                exact ShOut.bad _ BF.out
          · have HE := Lib.hid (fun k' hk' => hrf.out.trans (shGo_on (k' := k') (n := nn) (f := f - 1) (state := state) HY.out HXR.out hnon (by rw [hol.out]; exact hl) hk'))
            obtain ⟨k', hk'⟩ := Int.eq_ofNat_of_zero_le (show 0 ≤ (k : Int) + mv by omega)
            have hkm : k' < m := by omega
            have HE2 := Lib.hid (HE.out k' hk')
            have va : IntKind.i64.wrap ((k : Int) + mv) = (k' : Int) := (IntWalk.i64_in _ (by omega)).trans hk'
            have hin : inB (k' : Int) 0 ((m : Int) - 1) = true := inB_of (by omega) (by omega)
            clear HE hk' hl hr hnon hrf
            go_wp2_with fail
            go_quiet (fail)
            clear va
            go_wp2_with fail
            refine (sizeI_c _ _ _ _ (by omega)).mono ?_
            rintro e w' ⟨rfl, rfl⟩
            go_wp2_with fail
            refine (within_b _ _ _ _ hin _).mono ?_
            rintro e w' ⟨rfl, rfl⟩
            go_wp2_with fail
            go_roundw
            case rel => exact ⟨nn + 1, f - 1, k', nx, out.set k p, rfl, rfl, by go_num, by omega, hkm, hnx, HSL.out, HSI.out, HE2.out, HS.out.below (below_drewN below_size _), below_drewN BS.out _, hz2⟩
            case measure => simp [intOf]; omega
      · have HE := Lib.hid (show R = (([], 0), 3) by rw [hr.out, show f = 0 by omega, shGo])
        clear hr
        go_wp2_with fail
        go_ret3
        rw [HE.out]
        exact ShOut.bad _ (B00.out.trans (hB.out.mono hw00))
end Go.Proofs.Ytdnicjeadpefnaa
