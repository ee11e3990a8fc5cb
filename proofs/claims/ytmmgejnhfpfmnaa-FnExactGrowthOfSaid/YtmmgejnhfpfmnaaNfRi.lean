/-
  Contracts of chapter 27 (NormalFormula): the turning of a repeater (the program's).
-/
import Derived.Test.YtmmgejnhfpfmnaaNfB
import Derived.Test.YtmmgejnhfpfmnaaJoin
namespace Go.Proofs.Ytmmgejnhfpfmnaa
open Go.RowKit

set_option maxHeartbeats 8000000 in
set_option maxRecDepth 100000 in
theorem rotate_c (w0 : World) (lo g : Nat) (s hd : Int) (A0 : Option Addr) (n0 c0 : Nat) (A1 : Option Addr) (n1 c1 : Nat) (A2 : Option Addr) (n2 c2 : Nat) (S : NF) (i : Nat) (w : World) (k : Nat) (h : NfAt w0 lo g s hd A0 n0 c0 A1 n1 c1 A2 n2 c2 S w) (ok : OkN n1 k S) (hk : k ≤ 4000) (hn0 : n0 = n1 + 1) (hn1 : 1 ≤ n1 ∧ n1 ≤ 3) (hi : i < n1) :
    Calls Try.prog 120 #[.pointer (some ⟨g, 0, none⟩), .int .i64 i] w fun e w' => (∃ v, e = .returned v) ∧ NfAt w0 lo g s hd A0 n0 c0 A1 n1 c1 A2 n2 c2 (rotN hd i S) w' := by
  have st := RoAt.start (i := i) h ok hk hi
  obtain ⟨adx, rfl⟩ := h.some0 (by omega)
  obtain ⟨ady, rfl⟩ := h.some1 (by omega)
  have ST := Lib.hid st
  have HLW := Lib.hid ok.nw; have HLR := Lib.hid ok.nr
  have hA4 : (S.ws.getD i []).length ≤ 400 := by have h1 := sumW_at S.ws i; have h2 := ok.sum; omega
  subst hn0
  have vi : IntKind.i64.wrap ((i : Int) + 1) = ((i + 1 : Nat) : Int) := (IntWalk.i64_in _ (by omega)).trans (by omega)
  clear h ok st
  go_enter Try.func120, Try.ntmps120
  go_wp2_with fail
  go_loopw [] (fun wr => ∃ (m : Nat) (p b : List Int) (a : Int), Hid (RoAt w0 lo g s hd (some adx) (n1 + 1) c0 (some ady) n1 c1 A2 n2 c2 S i m p b a wr)) (fun wr => lenAt wr (adx.add i))
  case atStart => exact ⟨_, _, _, _, ST.out⟩
  case round =>
    clear ST
    obtain ⟨m, p, b, a, hL⟩ := hrel
    have HOUT := Lib.hid (show ∀ w', rotG hd i (S.ws.getD i []) m p b a = ((S.ws.getD i []).take m, p, b, a) → Below wr.heap.size wr w' → NfAt w0 lo g s hd (some adx) (n1 + 1) c0 (some ady) n1 c1 A2 n2 c2 (rotN hd i S) w' from fun w' ho hb => (hL.out.out ho).world hb)
    obtain ⟨⟨its0, its1, e0, e1, hF⟩, hs, hm, hp, hb8, ha0, ha1⟩ := hL.out
    simp only at e0 e1 hF
    obtain ⟨A, hA⟩ : ∃ A, S.ws.getD i [] = A := ⟨_, rfl⟩
    rw [hA] at e0 hs hm hA4 HOUT
    have hl0 := RdII.len hF.form.r0; have hl1 := RdII.len hF.form.r1
    obtain ⟨t, ht⟩ : ∃ t, its0[i]? = some t := ⟨_, List.getElem?_eq_getElem (by omega)⟩
    obtain ⟨v, hv⟩ : ∃ v, its0[i + 1]? = some v := ⟨_, List.getElem?_eq_getElem (by omega)⟩
    obtain ⟨u, hu⟩ : ∃ u, its1[i]? = some u := ⟨_, List.getElem?_eq_getElem (by omega)⟩
    have htx : t.xs = A.take m := by
      rw [← map_at e0 ht]
      have := HLW.out
      simp [List.getD_eq_getElem?_getD, show i < S.ws.length by omega]
    have hvx : v.xs = b := by
      rw [← map_at e0 hv]
      have := HLW.out
      simp [List.getD_eq_getElem?_getD, show i + 1 < S.ws.length by omega]
    have hux : u.xs = p := by
      rw [← map_at e1 hu]
      have := HLR.out
      simp [List.getD_eq_getElem?_getD, show i < S.rs.length by omega]
    obtain ⟨ct, rt, lt, ft⟩ := hF.at0 ht
    obtain ⟨cv, rv, lv, fv⟩ := hF.at0 hv
    obtain ⟨cu, ru, lu, fu⟩ := hF.at1 hu
    have nt := rt.len; have nv := rv.len; have nu := ru.len
    obtain ⟨tA, tn, tc, tx⟩ := t
    obtain ⟨vA, vn, vc, vx⟩ := v
    obtain ⟨uA, un, uc, ux⟩ := u
    simp only at htx hvx hux ct rt lt cv rv lv cu ru lu nt nv nu
    subst htx; subst hvx; subst hux
    obtain rfl : m = tn := by rw [List.length_take] at nt; omega
    rw [nv] at hb8; rw [nu] at hp
    obtain ⟨kp, rfl⟩ : ∃ kp, un = kp + 1 := ⟨un - 1, by omega⟩
    have k1 := hF.form.d1; have k2 := hF.form.d2; have k3 := hF.form.d3; have k4 := hF.form.d4
    have E0 := Lib.hid e0; have E1 := Lib.hid e1; have HF := Lib.hid hF; have HT := Lib.hid ht; have HV := Lib.hid hv; have HU := Lib.hid hu; have RT := Lib.hid rt; have RV := Lib.hid rv; have RU := Lib.hid ru; have NT := Lib.hid nt; have NV := Lib.hid nv; have NU := Lib.hid nu; have HS := Lib.hid hs; have HA := Lib.hid hA; have HL0 := Lib.hid hl0; have HL1 := Lib.hid hl1
    clear e0 e1 hF ht hv hu rt rv ru nt nv nu hs hA hl0 hl1 hL
    have vk : IntKind.i64.wrap (((kp + 1 : Nat) : Int) - 1) = (kp : Int) := by rw [IntWalk.i64_in _ (by omega)]; omega
    have x0 := Ext.cell k3; have x1 := Ext.cell k4; have x2 := Ext.cell ct; have x3 := Ext.cell cu
    by_cases h0 : m = 0
    · have g0 : ((m : Int) == 0) = true := by simp [h0]
      have HM := Lib.hid h0
      clear h0
      go_wp2_with fail
      go_quiet (fail)
      clear x0 x1 x2 x3
      go_wp2_with fail
      refine (sizeI_c _ _ _ _ (by omega)).mono ?_
      rintro e w1 ⟨rfl, rfl⟩
      go_wp2_with fail
      go_quiet (fail)
      go_wp2_with fail
      refine bodyPost_ret (results_none rfl _ _ _) rfl ?_
      exact ⟨⟨_, rfl⟩, HOUT.out _ (by rw [HM.out]; rfl) (by first | exact below_size | exact below_drewN below_size _ | exact below_drewN (below_drewN below_size _) _)⟩
    obtain ⟨m', rfl⟩ : ∃ m', m = m' + 1 := ⟨m - 1, by omega⟩
    have g0 : (((m' + 1 : Nat) : Int) == 0) = false := by simp; omega
    have vm : IntKind.i64.wrap (((m' + 1 : Nat) : Int) - 1) = (m' : Int) := by rw [IntWalk.i64_in _ (by omega)]; omega
    have g0' : ((m' : Int) + 1 == 0) = false := by simp; omega
    have vm' : IntKind.i64.wrap (m' : Int) = (m' : Int) := IntWalk.i64_in _ (by omega)
    obtain ⟨adt, y, rfl, hab, hy, hcy⟩ := RT.out.at_ (k := m') (by omega)
    obtain ⟨adu, z, rfl, hab2, hz, hcz⟩ := RU.out.at_ (k := kp) (by omega)
    have HY := Lib.hid (show A.getD m' 0 = y by rw [List.getElem?_take] at hy; simp at hy; rw [List.getD_eq_getElem?_getD, hy]; rfl)
    have HZ := Lib.hid (show ux.getD (ux.length - 1) 0 = z by rw [NU.out, List.getD_eq_getElem?_getD, Nat.add_sub_cancel, hz]; rfl)
    clear hy hz hab hab2
    by_cases h1 : y = z ∧ ¬ (hd = (i : Int) ∧ a = (m' : Int))
    · have g1 : (y != z) = false := by simp [h1.1]
      have hq : underB hd a i m' = false := underB_f h1.2
      have HN := Lib.hid (show rotG hd i A m' (y :: ux.take (ux.length - 1)) (y :: vx) (if hd = i + 1 then a + 1 else a) = rotX hd i S by rw [← HS.out]; exact (rotG_hit HY.out HZ.out h1.1 h1.2).symm)
      have HYZ := Lib.hid h1.1
      clear h1 HOUT HS
      have M0 := Lib.hid (lenAt_of ct)
      go_wp2_with fail
      go_quiet (fail)
      clear x0 x1 x2 x3
      obtain ⟨W1, hW⟩ : ∃ W1, wr.drewN nq = W1 := ⟨_, rfl⟩
      have BW := Lib.hid (show Below wr.heap.size wr W1 from by rw [← hW]; exact below_drewN below_size _)
      rw [hW]
      clear hW
      have HF := Lib.hid (HF.out.world BW.out)
      have RT := Lib.hid (RdI.below RT.out BW.out)
      have RU := Lib.hid (RdI.below RU.out BW.out)
      have RV := Lib.hid (RdI.below RV.out BW.out)
      have k1 := HF.out.form.d1; have k2 := HF.out.form.d2; have k3 := HF.out.form.d3; have k4 := HF.out.form.d4
      obtain ⟨ct, _, _, ft⟩ := HF.out.at0 HT.out
      obtain ⟨cv, _, _, fv⟩ := HF.out.at0 HV.out
      obtain ⟨cu, _, _, fu⟩ := HF.out.at1 HU.out
      simp only at ct cv cu
      have hcy := keepc BW.out hcy; have hcz := keepc BW.out hcz
      go_wp2_with fail
      refine (sizeI_c _ _ _ _ (by omega)).mono ?_
      rintro e w1 ⟨rfl, rfl⟩
      go_wp2_with fail
      go_quiet (first | (go_at_call 155; first | exact Calls.quiet_of (implUnder_c g s hd a _ _ _ its0 _ _ _ its1 _ _ _ _ i m' false _ (by exact (HF.out.world (by first | exact below_size | exact below_drewN below_size _ | exact below_drewN (below_drewN below_size _) _)).form) hq) | exact quiet_add (implUnder_c g s hd a _ _ _ its0 _ _ _ its1 _ _ _ _ i m' false _ (by exact (HF.out.world (by first | exact below_size | exact below_drewN below_size _ | exact below_drewN (below_drewN below_size _) _)).form) hq)))
      obtain ⟨W, hW⟩ : ∃ W, W1.drewN nq = W := ⟨_, rfl⟩
      have BW := Lib.hid (show Below W1.heap.size W1 W from by rw [← hW]; exact below_drewN below_size _)
      rw [hW]
      clear hW
      have HF := Lib.hid (HF.out.world BW.out)
      have RT := Lib.hid (RdI.below RT.out BW.out)
      have RU := Lib.hid (RdI.below RU.out BW.out)
      have RV := Lib.hid (RdI.below RV.out BW.out)
      have k1 := HF.out.form.d1; have k2 := HF.out.form.d2; have k3 := HF.out.form.d3; have k4 := HF.out.form.d4
      obtain ⟨ct, _, _, ft⟩ := HF.out.at0 HT.out
      obtain ⟨cv, _, _, fv⟩ := HF.out.at0 HV.out
      obtain ⟨cu, _, _, fu⟩ := HF.out.at1 HU.out
      simp only at ct cv cu
      have hcy := keepc BW.out hcy; have hcz := keepc BW.out hcz
      go_wp2_with fail
      rw [addS] at cv fv
      have x0 := Ext.cell k3; have x1 := Ext.cell cv; have x2 := Ext.cell hcy
      refine Mix.wp_region_mix [0, 0, 0, 3, 0, 0, 0, 0, 0, 0, 3, 1, 0, 0, 0, 3, 0, 0, 0, 3, 1, 1, 0, 2] (fun w' => ∃ x : Ext W, w' = x.w) (by kernel_rfl) (by kernel_rfl) (InExt.drew _) ?_
      repeat (first | (refine Mix.wpMix_read (by rfl) ?_; go_big_quiet_step (fail); refine wpQuiet_nil ?_) | (refine Mix.wpMix_pure (by rfl) ?_; go_big_quiet_step (fail); refine wpQuiet_nil ?_))
      refine Mix.wpMix_chg (by rfl) (fun K hK => ?_)
      go_wp2_with fail
      refine hK _ _ ⟨⟨_, below_drew (below_size.alloc (Nat.le_refl _) _)⟩, rfl⟩ ?_
      clear hK K
      repeat (first | (refine Mix.wpMix_read (by rfl) ?_; go_big_quiet_step (fail); refine wpQuiet_nil ?_) | (refine Mix.wpMix_pure (by rfl) ?_; go_big_quiet_step (fail); refine wpQuiet_nil ?_))
      obtain ⟨w2, hw2⟩ : ∃ w2, (W.alloc (.cells #[.int .i64 y] 2)).drew = w2 := ⟨_, rfl⟩
      have B2 := Lib.hid (show Below W.heap.size W w2 by rw [← hw2]; exact below_drew (below_size.alloc (Nat.le_refl _) _))
      have G2 := Lib.hid (show Blk w2 W.heap.size 2 #[.int .i64 y] by rw [← hw2]; exact (Blk.new W _ _).drew)
      rw [hw2]; clear hw2
      refine Mix.wpMix_chg (by rfl) (fun K hK => ?_)
      go_wp2_with fail
      refine hK _ _ ⟨⟨_, below_chain B2.out B2.out.size (below_size.alloc (Nat.le_refl _) _)⟩, rfl⟩ ?_
      clear hK K
      obtain ⟨w3, hw3⟩ : ∃ w3, w2.alloc (.cells #[.slice (some ⟨W.heap.size, 0, none⟩) 1 1, .slice vA vn vc] 25) = w3 := ⟨_, rfl⟩
      have B3 := Lib.hid (show Below W.heap.size W w3 by rw [← hw3]; exact below_chain B2.out B2.out.size (below_size.alloc (Nat.le_refl _) _))
      have G3 := Lib.hid (show Blk w3 w2.heap.size 25 #[.slice (some ⟨W.heap.size, 0, none⟩) 1 1, .slice vA vn vc] by rw [← hw3]; exact Blk.new w2 _ _)
      have G23 := Lib.hid (show RdI w3 (some ⟨W.heap.size, 0, none⟩) 1 [y] by rw [← hw3]; exact (G2.out.alloc _).rd rfl (by simp))
      rw [hw3]; clear hw3
      repeat (first | (refine Mix.wpMix_read (by rfl) ?_; go_big_quiet_step (fail); refine wpQuiet_nil ?_) | (refine Mix.wpMix_pure (by rfl) ?_; go_big_quiet_step (fail); refine wpQuiet_nil ?_))
      refine Mix.wpMix_chg (by rfl) (fun K hK => ?_)
      go_wp2_with fail
      refine (joined2_c w2.heap.size _ (some ⟨W.heap.size, 0, none⟩) 1 1 [y] vA vn vc vx _ (by exact G3.out) (by exact G23.out) (by exact RdI.below RV.out B3.out) (by omega) (by omega)).mono ?_
      rintro e w4 ⟨A5, c5, rfl, hc5, hw5, hb5⟩
      have B4 := Lib.hid (below_chain B3.out B3.out.size hb5)
      have F4 := Lib.hid (HF.out.newW (k := i + 1) (t' := ⟨A5, 1 + vn, c5, y :: vx⟩) (by omega) B4.out (hw5.wider B3.out.size (Nat.le_refl _)) hc5)
      have cv2 := keepc B4.out cv
      have fv2 : w4.frozen? ⟨adx.block, adx.off + (i + 1), none⟩ = false := (B4.out.frozen (p := ⟨adx.block, adx.off + (i + 1), none⟩) (World.block_lt_of_cell? W _ cv)).trans fv
      clear hw5 hb5
      go_wp2_with fail
      refine hK _ _ ⟨⟨_, B4.out⟩, rfl⟩ ?_
      clear hK K
      repeat (first | (refine Mix.wpMix_read (by rfl) ?_; go_big_quiet_step (fail); refine wpQuiet_nil ?_) | (refine Mix.wpMix_pure (by rfl) ?_; go_big_quiet_step (fail); refine wpQuiet_nil ?_))
      refine Mix.wpMix_tail (by rfl) (fun K hK => ?_)
      go_wp2_with fail
      refine hK _ _ ?_
      clear hK K
      (refine Mix.wpMix_nil ?_; try simp only [Exit.then])
      clear x0 x1 x2 G2 G3 G23 B2 B3 cv2 fv2
      obtain ⟨w5, hw5⟩ : ∃ w5, w4.setCell ⟨adx.block, adx.off + (i + 1), none⟩ (.slice A5 (1 + vn) c5) = w5 := ⟨_, rfl⟩
      simp only [addS] at F4
      rw [hw5] at F4 ⊢
      clear hw5
      have HT4 := Lib.hid (show (its0.set (i + 1) ⟨A5, 1 + vn, c5, y :: vx⟩)[i]? = some ⟨some adt, m' + 1, tc, A.take (m' + 1)⟩ by rw [List.getElem?_set_ne (by omega)]; exact HT.out)
      have k1 := F4.out.form.d1; have k2 := F4.out.form.d2; have k3 := F4.out.form.d3; have k4 := F4.out.form.d4
      obtain ⟨ct, _, _, ft⟩ := F4.out.at0 HT4.out
      simp only at ct
      have F5 := Lib.hid (F4.out.subW (t' := ⟨some adt, m', tc, A.take m'⟩) HT4.out ⟨0, by show 0 + m' ≤ m' + 1; omega, by show A.take m' = ((A.take (m' + 1)).drop 0).take m'; rw [List.drop_zero, List.take_take, Nat.min_eq_left (by omega)], fun _ ad e => by simp only at e; rw [e, addr0]⟩ (by show m' ≤ tc; omega))
      simp only at F5
      go_wp2_with fail
      have x0 := Ext.cell k3
      refine Mix.wp_region_mix [0, 0, 0, 3, 0, 0, 0, 0, 0, 0, 2] (fun w' => ∃ x : Ext w5, w' = x.w) (by kernel_rfl) (by kernel_rfl) (InExt.drew _) ?_
      repeat (first | (refine Mix.wpMix_read (by rfl) ?_; go_big_quiet_step (fail); refine wpQuiet_nil ?_) | (refine Mix.wpMix_pure (by rfl) ?_; go_big_quiet_step (fail); refine wpQuiet_nil ?_))
      refine Mix.wpMix_tail (by rfl) (fun K hK => ?_)
      go_wp2_with fail
      refine hK _ _ ?_
      clear hK K
      (refine Mix.wpMix_nil ?_; try simp only [Exit.then])
      clear x0 F4
      obtain ⟨w6, hw6⟩ : ∃ w6, (w5.setCell (adx.add i) (.slice (some adt) m' tc)).drew = w6 := ⟨_, rfl⟩
      have F6 := Lib.hid (show FormW w0 lo w6 g s hd a (some adx) (n1 + 1) c0 ((its0.set (i + 1) ⟨A5, 1 + vn, c5, y :: vx⟩).set i ⟨some adt, m', tc, A.take m'⟩) (some ady) n1 c1 its1 A2 n2 c2 S.os by rw [← hw6]; exact F5.out.world (below_drew below_size))
      rw [hw6]
      clear hw6 F5
      have k1 := F6.out.form.d1; have k2 := F6.out.form.d2; have k3 := F6.out.form.d3; have k4 := F6.out.form.d4
      obtain ⟨cu, ru, _, fu⟩ := F6.out.at1 HU.out
      simp only at cu
      have ru : RdI w6 (some adu) (kp + 1) ux := ru
      have hcu1 : ¬ uc = kp := by omega
      have hcu2 : ¬ uc = 0 := by omega
      have R1 := Lib.hid (show RdI w6 (some (adu.add kp)) 1 [z] from by
        have h := ru.drop (show kp ≤ kp + 1 by omega)
        have e : ux.drop kp = [z] := by
          have h1 := HZ.out; rw [NU.out, Nat.add_sub_cancel] at h1
          have h2 : kp < ux.length := by rw [NU.out]; omega
          rw [List.drop_eq_getElem_cons h2, List.drop_eq_nil_of_le (by rw [NU.out]; omega)]
          rw [List.getD_eq_getElem?_getD, List.getElem?_eq_getElem h2] at h1
          exact congrArg (· :: []) h1
        rw [show kp + 1 - kp = 1 by omega] at h
        rw [← e]; exact h)
      have R2 := Lib.hid (show RdI w6 (some adu) kp (ux.take kp) from ru.take (by omega))
      clear ru
      go_wp2_with fail
      have x0 := Ext.cell k4
      refine Mix.wp_region_mix [0, 0, 0, 3, 0, 0, 0, 0, 0, 0, 0, 1, 1, 0, 2] (fun w' => ∃ x : Ext w6, w' = x.w) (by kernel_rfl) (by kernel_rfl) (InExt.drew _) ?_
      repeat (first | (refine Mix.wpMix_read (by rfl) ?_; go_big_quiet_step (fail); refine wpQuiet_nil ?_) | (refine Mix.wpMix_pure (by rfl) ?_; go_big_quiet_step (fail); refine wpQuiet_nil ?_))
      refine Mix.wpMix_chg (by rfl) (fun K hK => ?_)
      go_wp2_with fail
      refine hK _ _ ⟨⟨_, below_drew (below_size.alloc (Nat.le_refl _) _)⟩, rfl⟩ ?_
      clear hK K
      obtain ⟨w7, hw7⟩ : ∃ w7, (w6.alloc (.cells #[.slice (some (adu.add kp)) 1 (uc - kp), .slice (some adu) kp uc] 25)).drew = w7 := ⟨_, rfl⟩
      have B7 := Lib.hid (show Below w6.heap.size w6 w7 by rw [← hw7]; exact below_drew (below_size.alloc (Nat.le_refl _) _))
      have G7 := Lib.hid (show Blk w7 w6.heap.size 25 #[.slice (some (adu.add kp)) 1 (uc - kp), .slice (some adu) kp uc] by rw [← hw7]; exact (Blk.new w6 _ _).drew)
      rw [hw7]; clear hw7
      repeat (first | (refine Mix.wpMix_read (by rfl) ?_; go_big_quiet_step (fail); refine wpQuiet_nil ?_) | (refine Mix.wpMix_pure (by rfl) ?_; go_big_quiet_step (fail); refine wpQuiet_nil ?_))
      refine Mix.wpMix_chg (by rfl) (fun K hK => ?_)
      go_wp2_with fail
      refine (joined2_c w6.heap.size _ (some (adu.add kp)) 1 (uc - kp) [z] (some adu) kp uc (ux.take kp) _ (by exact G7.out) (by exact RdI.below R1.out B7.out) (by exact RdI.below R2.out B7.out) (by omega) (by omega)).mono ?_
      rintro e w8 ⟨A9, c9, rfl, hc9, hw9, hb9⟩
      have B8 := Lib.hid (below_chain B7.out B7.out.size hb9)
      have F8 := Lib.hid (F6.out.newR (k := i) (t' := ⟨A9, 1 + kp, c9, z :: ux.take kp⟩) (by omega) B8.out (hw9.wider B7.out.size (Nat.le_refl _)) hc9)
      have cu2 := keepc B8.out cu
      have fu2 : w8.frozen? (ady.add i) = false := (B8.out.frozen (p := ady.add i) (World.block_lt_of_cell? w6 _ cu)).trans fu
      clear hw9 hb9
      go_wp2_with fail
      refine hK _ _ ⟨⟨_, B8.out⟩, rfl⟩ ?_
      clear hK K
      repeat (first | (refine Mix.wpMix_read (by rfl) ?_; go_big_quiet_step (fail); refine wpQuiet_nil ?_) | (refine Mix.wpMix_pure (by rfl) ?_; go_big_quiet_step (fail); refine wpQuiet_nil ?_))
      refine Mix.wpMix_tail (by rfl) (fun K hK => ?_)
      go_wp2_with fail
      refine hK _ _ ?_
      clear hK K
      (refine Mix.wpMix_nil ?_; try simp only [Exit.then])
      clear x0 G7 R1 R2 B7 cu2 fu2
      obtain ⟨w9, hw9⟩ : ∃ w9, w8.setCell (ady.add i) (.slice A9 (1 + kp) c9) = w9 := ⟨_, rfl⟩
      rw [hw9] at F8 ⊢
      clear hw9
      have k1 := F8.out.form.d1; have k2 := F8.out.form.d2; have f2 := F8.out.frz (k := 2) (by omega)
      have FIN := Lib.hid (show ∀ a' w', (if hd = i + 1 then a + 1 else a) = a' → FormW w0 lo w' g s hd a' (some adx) (n1 + 1) c0 ((its0.set (i + 1) ⟨A5, 1 + vn, c5, y :: vx⟩).set i ⟨some adt, m', tc, A.take m'⟩) (some ady) n1 c1 (its1.set i ⟨A9, 1 + kp, c9, z :: ux.take kp⟩) A2 n2 c2 S.os →
          RoAt w0 lo g s hd (some adx) (n1 + 1) c0 (some ady) n1 c1 A2 n2 c2 S i m' (y :: ux.take (ux.length - 1)) (y :: vx) a' w' ∧ lenAt w' (adx.add i) = m' from fun a' w' ha hF' => by
        refine ⟨⟨⟨_, _, ?_, ?_, hF'⟩, ?_, ?_, ?_, ?_, ?_, ?_⟩, ?_⟩
        · rw [List.map_set, List.map_set, E0.out, HA.out]
          show ((((S.ws.set i (A.take (m' + 1))).set (i + 1) vx).set (i + 1) (y :: vx)).set i (A.take m')) = (S.ws.set i (A.take m')).set (i + 1) (y :: vx)
          rw [List.set_set, List.set_comm _ _ (show i + 1 ≠ i by omega), List.set_set]
        · rw [List.map_set, E1.out]
          show ((S.rs.set i ux).set i (z :: ux.take kp)) = S.rs.set i (y :: ux.take (ux.length - 1))
          rw [List.set_set, HYZ.out, NU.out, Nat.add_sub_cancel]
        · rw [HA.out, ← ha]; exact HN.out
        · rw [HA.out]; omega
        · simp only [List.length_cons, List.length_take, NU.out]; omega
        · simp only [List.length_cons, NV.out]; omega
        · split at ha <;> omega
        · split at ha <;> omega
        · have hlt := (List.getElem?_eq_some_iff.1 HT4.out).1
          exact lenAt_of (hF'.at0 (i := i) (List.getElem?_set_self hlt)).1)
      by_cases hz : hd = (i : Int) + 1
      · have g5 : (hd == (i : Int) + 1) = true := by simp [hz]
        have v5 : IntKind.i64.wrap (a + 1) = a + 1 := IntWalk.i64_in _ (by omega)
        have HZ2 := Lib.hid (show (if hd = i + 1 then a + 1 else a) = a + 1 from if_pos hz)
        clear hz
        go_wp2_with fail
        go_roundw
        case rel => exact ⟨m', y :: ux.take (ux.length - 1), y :: vx, a + 1, (FIN.out _ _ HZ2.out (F8.out.setA (a + 1))).1⟩
        case measure => have q1 := (FIN.out _ _ HZ2.out (F8.out.setA (a + 1))).2; have q2 := M0.out; rw [q1, q2]; all_goals (first | omega | (simp; done))
      · have g5 : (hd == (i : Int) + 1) = false := by simp [hz]
        have HZ2 := Lib.hid (show (if hd = i + 1 then a + 1 else a) = a from if_neg hz)
        clear hz
        go_wp2_with fail
        go_roundw
        case rel => exact ⟨m', y :: ux.take (ux.length - 1), y :: vx, a, (FIN.out _ _ HZ2.out F8.out).1⟩
        case measure => have q1 := (FIN.out _ _ HZ2.out F8.out).2; have q2 := M0.out; rw [q1, q2]; all_goals (first | omega | (simp; done))
    · have HO := Lib.hid (HOUT.out · (rotG_stop HY.out HZ.out (rot_or h1)))
      clear HOUT
      by_cases h2 : y = z
      · have g1 : (y != z) = false := by simp [h2]
        have h3 : hd = (i : Int) ∧ a = (m' : Int) := Decidable.byContradiction fun h3 => h1 ⟨h2, h3⟩
        have hq : underB hd a i m' = true := by simp [underB, h3]
        clear h1 h2 h3
        go_wp2_with fail
        go_quiet (fail)
        clear x0 x1 x2 x3
        go_wp2_with fail
        refine (sizeI_c _ _ _ _ (by omega)).mono ?_
        rintro e w1 ⟨rfl, rfl⟩
        go_wp2_with fail
        go_quiet (first | (go_at_call 155; first | exact Calls.quiet_of (implUnder_c g s hd a _ _ _ its0 _ _ _ its1 _ _ _ _ i m' true _ (by exact (HF.out.world (by first | exact below_size | exact below_drewN below_size _ | exact below_drewN (below_drewN below_size _) _)).form) hq) | exact quiet_add (implUnder_c g s hd a _ _ _ its0 _ _ _ its1 _ _ _ _ i m' true _ (by exact (HF.out.world (by first | exact below_size | exact below_drewN below_size _ | exact below_drewN (below_drewN below_size _) _)).form) hq)))
        go_wp2_with fail
        refine bodyPost_ret (results_none rfl _ _ _) rfl ?_
        exact ⟨⟨_, rfl⟩, HO.out _ (by first | exact below_size | exact below_drewN below_size _ | exact below_drewN (below_drewN below_size _) _)⟩
      · have g1 : (y != z) = true := by simp [h2]
        clear h1 h2
        go_wp2_with fail
        go_quiet (fail)
        clear x0 x1 x2 x3
        go_wp2_with fail
        refine (sizeI_c _ _ _ _ (by omega)).mono ?_
        rintro e w1 ⟨rfl, rfl⟩
        go_wp2_with fail
        go_quiet (fail)
        go_wp2_with fail
        refine bodyPost_ret (results_none rfl _ _ _) rfl ?_
        exact ⟨⟨_, rfl⟩, HO.out _ (by first | exact below_size | exact below_drewN below_size _ | exact below_drewN (below_drewN below_size _) _)⟩
end Go.Proofs.Ytmmgejnhfpfmnaa
