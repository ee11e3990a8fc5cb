/-
  Contracts of chapter 27 (NormalFormula): the turning of a repeater (the reference's).
-/
import Derived.Test.YtmmgejnhfpfmnaaNfB
import Derived.Test.YtmmgejnhfpfmnaaAppA
import Derived.Test.YtmmgejnhfpfmnaaC27r
namespace Go.Proofs.Ytmmgejnhfpfmnaa
open Go.RowKit

set_option maxHeartbeats 8000000 in
set_option maxRecDepth 100000 in
theorem l27Rotate_c (w0 : World) (lo g : Nat) (s hd : Int) (A0 : Option Addr) (n0 c0 : Nat) (A1 : Option Addr) (n1 c1 : Nat) (A2 : Option Addr) (n2 c2 : Nat) (S : NF) (i : Nat) (w : World) (k : Nat) (h : NfAt w0 lo g s hd A0 n0 c0 A1 n1 c1 A2 n2 c2 S w) (ok : OkN n1 k S) (hk : k ≤ 4000) (hn0 : n0 = n1 + 1) (hn1 : 1 ≤ n1 ∧ n1 ≤ 3) (hi : i < n1) :
    Calls Try.prog 117 #[.pointer (some ⟨g, 0, none⟩), .int .i64 i] w fun e w' => (∃ v, e = .returned v) ∧ NfAt w0 lo g s hd A0 n0 c0 A1 n1 c1 A2 n2 c2 (rotN hd i S) w' := by
  have st := RoAt.start (i := i) h ok hk hi
  obtain ⟨adx, rfl⟩ := h.some0 (by omega)
  obtain ⟨ady, rfl⟩ := h.some1 (by omega)
  have ST := Lib.hid st
  have HLW := Lib.hid ok.nw; have HLR := Lib.hid ok.nr
  have hA4 : (S.ws.getD i []).length ≤ 400 := by have h1 := sumW_at S.ws i; have h2 := ok.sum; omega
  subst hn0
  have vi : IntKind.i64.wrap ((i : Int) + 1) = ((i + 1 : Nat) : Int) := (IntWalk.i64_in _ (by omega)).trans (by omega)
  clear h ok st
  go_enter Try.func117, Try.ntmps117
  go_wp2_with fail
  go_loopw [] (fun wr => ∃ (m : Nat) (p b : List Int) (a : Int), Hid (RoAt w0 lo g s hd (some adx) (n1 + 1) c0 (some ady) n1 c1 A2 n2 c2 S i m p b a wr)) (fun wr => lenAt wr (adx.add i))
  case atStart => exact ⟨_, _, _, _, ST.out⟩
  case round =>
    clear ST
    obtain ⟨m, p, b, a, hL⟩ := hrel
    have HOUT := Lib.hid (show ∀ w', rotG hd i (S.ws.getD i []) m p b a = ((S.ws.getD i []).take m, p, b, a) → Below wr.heap.size wr w' → NfAt w0 lo g s hd (some adx) (n1 + 1) c0 (some ady) n1 c1 A2 n2 c2 (rotN hd i S) w' from fun w' ho hb => (hL.out.out ho).world hb)
    obtain ⟨⟨its0, its1, e0, e1, hF⟩, hs, hm, hp, hb8, ha0, ha1⟩ := hL.out
    simp only at e0 e1 hF
    obtain ⟨A, hA⟩ : ∃ A, S.ws.getD i [] = A := ⟨_, rfl⟩
    rw [hA] at e0 hs hm hA4 HOUT
    have hl0 := RdII.len hF.form.r0; have hl1 := RdII.len hF.form.r1
    obtain ⟨t, ht⟩ : ∃ t, its0[i]? = some t := ⟨_, List.getElem?_eq_getElem (by omega)⟩
    obtain ⟨v, hv⟩ : ∃ v, its0[i + 1]? = some v := ⟨_, List.getElem?_eq_getElem (by omega)⟩
    obtain ⟨u, hu⟩ : ∃ u, its1[i]? = some u := ⟨_, List.getElem?_eq_getElem (by omega)⟩
    have htx : t.xs = A.take m := by
      rw [← map_at e0 ht]
      have := HLW.out
      simp [List.getD_eq_getElem?_getD, show i < S.ws.length by omega]
    have hvx : v.xs = b := by
      rw [← map_at e0 hv]
      have := HLW.out
      simp [List.getD_eq_getElem?_getD, show i + 1 < S.ws.length by omega]
    have hux : u.xs = p := by
      rw [← map_at e1 hu]
      have := HLR.out
      simp [List.getD_eq_getElem?_getD, show i < S.rs.length by omega]
    obtain ⟨ct, rt, lt, ft⟩ := hF.at0 ht
    obtain ⟨cv, rv, lv, fv⟩ := hF.at0 hv
    obtain ⟨cu, ru, lu, fu⟩ := hF.at1 hu
    have nt := rt.len; have nv := rv.len; have nu := ru.len
    obtain ⟨tA, tn, tc, tx⟩ := t
    obtain ⟨vA, vn, vc, vx⟩ := v
    obtain ⟨uA, un, uc, ux⟩ := u
    simp only at htx hvx hux ct rt lt cv rv lv cu ru lu nt nv nu
    subst htx; subst hvx; subst hux
    obtain rfl : m = tn := by rw [List.length_take] at nt; omega
    rw [nv] at hb8; rw [nu] at hp
    obtain ⟨kp, rfl⟩ : ∃ kp, un = kp + 1 := ⟨un - 1, by omega⟩
    have k1 := hF.form.d1; have k2 := hF.form.d2; have k3 := hF.form.d3; have k4 := hF.form.d4
    have E0 := Lib.hid e0; have E1 := Lib.hid e1; have HF := Lib.hid hF; have HT := Lib.hid ht; have HV := Lib.hid hv; have HU := Lib.hid hu; have RT := Lib.hid rt; have RV := Lib.hid rv; have RU := Lib.hid ru; have NT := Lib.hid nt; have NV := Lib.hid nv; have NU := Lib.hid nu; have HS := Lib.hid hs; have HA := Lib.hid hA; have HL0 := Lib.hid hl0; have HL1 := Lib.hid hl1
    clear e0 e1 hF ht hv hu rt rv ru nt nv nu hs hA hl0 hl1 hL
    have vk : IntKind.i64.wrap (((kp + 1 : Nat) : Int) - 1) = (kp : Int) := by rw [IntWalk.i64_in _ (by omega)]; omega
    by_cases h0 : m = 0
    · have g0 : ((m : Int) == 0) = true := by simp [h0]
      have HM := Lib.hid h0
      clear h0
      go_wp2_with fail
      go_quiet (fail)
      go_wp2_with fail
      refine bodyPost_ret (results_none rfl _ _ _) rfl ?_
      exact ⟨⟨_, rfl⟩, HOUT.out _ (by rw [HM.out]; rfl) (by first | exact below_size | exact below_drewN below_size _ | exact below_drewN (below_drewN below_size _) _)⟩
    obtain ⟨m', rfl⟩ : ∃ m', m = m' + 1 := ⟨m - 1, by omega⟩
    have g0 : (((m' + 1 : Nat) : Int) == 0) = false := by simp; omega
    have vm : IntKind.i64.wrap (((m' + 1 : Nat) : Int) - 1) = (m' : Int) := by rw [IntWalk.i64_in _ (by omega)]; omega
    have g0' : ((m' : Int) + 1 == 0) = false := by simp; omega
    have vm' : IntKind.i64.wrap (m' : Int) = (m' : Int) := IntWalk.i64_in _ (by omega)
    obtain ⟨adt, y, rfl, hab, hy, hcy⟩ := RT.out.at_ (k := m') (by omega)
    obtain ⟨adu, z, rfl, hab2, hz, hcz⟩ := RU.out.at_ (k := kp) (by omega)
    have HY := Lib.hid (show A.getD m' 0 = y by rw [List.getElem?_take] at hy; simp at hy; rw [List.getD_eq_getElem?_getD, hy]; rfl)
    have HZ := Lib.hid (show ux.getD (ux.length - 1) 0 = z by rw [NU.out, List.getD_eq_getElem?_getD, Nat.add_sub_cancel, hz]; rfl)
    clear hy hz hab hab2
    by_cases h1 : y = z ∧ ¬ (hd = (i : Int) ∧ a = (m' : Int))
    · have g1 : (y != z) = false := by simp [h1.1]
      have hq : underB hd a i m' = false := underB_f h1.2
      have HN := Lib.hid (show rotG hd i A m' (y :: ux.take (ux.length - 1)) (y :: vx) (if hd = i + 1 then a + 1 else a) = rotX hd i S by rw [← HS.out]; exact (rotG_hit HY.out HZ.out h1.1 h1.2).symm)
      have HYZ := Lib.hid h1.1
      clear h1 HOUT HS
      have M0 := Lib.hid (lenAt_of ct)
      go_wp2_with fail
      go_quiet (first | (go_at_call 153; first | exact Calls.quiet_of (specUnder_c g s hd a _ _ _ its0 _ _ _ its1 _ _ _ _ i m' false _ (by exact (HF.out.world (by first | exact below_size | exact below_drewN below_size _ | exact below_drewN (below_drewN below_size _) _)).form) hq) | exact quiet_add (specUnder_c g s hd a _ _ _ its0 _ _ _ its1 _ _ _ _ i m' false _ (by exact (HF.out.world (by first | exact below_size | exact below_drewN below_size _ | exact below_drewN (below_drewN below_size _) _)).form) hq)))
      obtain ⟨W, hW⟩ : ∃ W, wr.drewN nq = W := ⟨_, rfl⟩
      have BW := Lib.hid (show Below wr.heap.size wr W from by rw [← hW]; exact below_drewN below_size _)
      rw [hW]
      clear hW
      have HF := Lib.hid (HF.out.world BW.out)
      have RT := Lib.hid (RdI.below RT.out BW.out)
      have RU := Lib.hid (RdI.below RU.out BW.out)
      have RV := Lib.hid (RdI.below RV.out BW.out)
      have k1 := HF.out.form.d1; have k2 := HF.out.form.d2; have k3 := HF.out.form.d3; have k4 := HF.out.form.d4
      obtain ⟨ct, _, _, ft⟩ := HF.out.at0 HT.out
      obtain ⟨cv, _, _, fv⟩ := HF.out.at0 HV.out
      obtain ⟨cu, _, _, fu⟩ := HF.out.at1 HU.out
      simp only at ct cv cu
      have hcy := keepc BW.out hcy; have hcz := keepc BW.out hcz
      go_wp2_with fail
      have x0 := Ext.cell k3; have x1 := Ext.cell ct
      have RL := Lib.hid (show RdI W (some adt) m' (A.take m') from by have h := RT.out.take (show m' ≤ m' + 1 by omega); rwa [List.take_take, Nat.min_eq_left (by omega)] at h)
      refine Mix.wp_region_mix [0, 0, 0, 3, 0, 0, 0, 0, 3, 0, 0, 3, 0, 0, 0, 1, 0, 2] (fun w' => ∃ x : Ext W, w' = x.w) (by kernel_rfl) (by kernel_rfl) (InExt.drew _) ?_
      repeat (first | (refine Mix.wpMix_read (by rfl) ?_; go_big_quiet_step (fail); refine wpQuiet_nil ?_) | (refine Mix.wpMix_pure (by rfl) ?_; go_big_quiet_step (fail); refine wpQuiet_nil ?_))
      refine Mix.wpMix_chg (by rfl) (fun K hK => ?_)
      go_wp2_with fail
      refine (l00OwnX_c (some adt) m' tc (A.take m') _ (by exact RL.out) (by omega)).mono ?_
      rintro e w2 ⟨A5, c5, rfl, ho, hb⟩
      have B2 := Lib.hid (show Below W.heap.size W w2 from ⟨hb.os, hb.tape, hb.output, hb.size, hb.block⟩)
      have F2 := Lib.hid (HF.out.newW (k := i) (t' := ⟨A5, m', c5, A.take m'⟩) (by omega) B2.out (by have := ho.wrK; rw [Nat.mul_one] at this; exact this.wider (Nat.le_refl _) (Nat.le_refl _)) ho.cap)
      have ct2 := keepc B2.out ct
      have ft2 : w2.frozen? (adx.add i) = false := (B2.out.frozen (p := adx.add i) (World.block_lt_of_cell? W _ ct)).trans ft
      clear ho hb
      go_wp2_with fail
      refine hK _ _ ⟨⟨_, B2.out⟩, rfl⟩ ?_
      clear hK K
      repeat (first | (refine Mix.wpMix_read (by rfl) ?_; go_big_quiet_step (fail); refine wpQuiet_nil ?_) | (refine Mix.wpMix_pure (by rfl) ?_; go_big_quiet_step (fail); refine wpQuiet_nil ?_))
      refine Mix.wpMix_tail (by rfl) (fun K hK => ?_)
      go_wp2_with fail
      refine hK _ _ ?_
      clear hK K
      (refine Mix.wpMix_nil ?_; try simp only [Exit.then])
      clear x0 x1 RL B2 ct2 ft2
      obtain ⟨w3, hw3⟩ : ∃ w3, w2.setCell (adx.add i) (.slice A5 m' c5) = w3 := ⟨_, rfl⟩
      rw [hw3] at F2 ⊢
      clear hw3
      have k3 := F2.out.form.d3; have k4 := F2.out.form.d4
      obtain ⟨cu, ru, _, fu⟩ := F2.out.at1 HU.out
      simp only at cu
      have R3 := Lib.hid (show RdI w3 (some adu) kp (ux.take kp) from RdI.take (show RdI w3 (some adu) (kp + 1) ux from ru) (by omega))
      clear ru
      go_wp2_with fail
      have x0 := Ext.cell k4; have x1 := Ext.cell cu
      refine Mix.wp_region_mix [0, 0, 0, 3, 0, 0, 1, 0, 0, 0, 3, 0, 0, 3, 0, 0, 1, 0, 2] (fun w' => ∃ x : Ext w3, w' = x.w) (by kernel_rfl) (by kernel_rfl) (InExt.drew _) ?_
      repeat (first | (refine Mix.wpMix_read (by rfl) ?_; go_big_quiet_step (fail); refine wpQuiet_nil ?_) | (refine Mix.wpMix_pure (by rfl) ?_; go_big_quiet_step (fail); refine wpQuiet_nil ?_))
      refine Mix.wpMix_chg (by rfl) (fun K hK => ?_)
      go_wp2_with fail
      refine hK _ _ ⟨⟨_, below_drew (below_size.alloc (Nat.le_refl _) _)⟩, rfl⟩ ?_
      clear hK K
      obtain ⟨w4, hw4⟩ : ∃ w4, (w3.alloc (.cells #[.int .i64 y] 2)).drew = w4 := ⟨_, rfl⟩
      have B4 := Lib.hid (show Below w3.heap.size w3 w4 by rw [← hw4]; exact below_drew (below_size.alloc (Nat.le_refl _) _))
      have O4 := Lib.hid (show Own w4 w3.heap.size 2 1 (some ⟨w3.heap.size, 0, none⟩) 1 1 [i64 y] by rw [← hw4]; exact (Own.lit1f (w := w3) (B := w3.heap.size) (e := 2) (v := i64 y) (Nat.le_refl _)).drew)
      rw [hw4]; clear hw4
      repeat (first | (refine Mix.wpMix_read (by rfl) ?_; go_big_quiet_step (fail); refine wpQuiet_nil ?_) | (refine Mix.wpMix_pure (by rfl) ?_; go_big_quiet_step (fail); refine wpQuiet_nil ?_))
      refine Mix.wpMix_chg (by rfl) (fun K hK => ?_)
      refine wp_appA (by rfl) _ _ (by rfl) w3.heap.size (some ⟨w3.heap.size, 0, none⟩) 1 1 [i64 y] (by rfl) (by exact O4.out) (some adu) kp uc (ux.take kp) (by rfl) (by exact RdI.below R3.out B4.out) (by omega) B4.out.size ?_
      intro A9 c9 w5 own5 hb5 hk5 hg5 hz5
      have B5 := Lib.hid (B4.out.trans hb5)
      have F5 := Lib.hid (F2.out.newR (k := i) (t' := ⟨A9, 1 + kp, c9, y :: ux.take kp⟩) (by omega) B5.out (by have := own5.wrK; rw [Nat.mul_one] at this; exact this) own5.cap)
      have cu2 := keepc B5.out cu
      have fu2 : w5.frozen? (ady.add i) = false := (B5.out.frozen (p := ady.add i) (World.block_lt_of_cell? w3 _ cu)).trans fu
      clear own5 hb5 hk5 hg5
      go_wp2_with fail
      refine hK _ _ ⟨⟨_, B5.out⟩, rfl⟩ ?_
      clear hK K
      repeat (first | (refine Mix.wpMix_read (by rfl) ?_; go_big_quiet_step (fail); refine wpQuiet_nil ?_) | (refine Mix.wpMix_pure (by rfl) ?_; go_big_quiet_step (fail); refine wpQuiet_nil ?_))
      refine Mix.wpMix_tail (by rfl) (fun K hK => ?_)
      go_wp2_with fail
      refine hK _ _ ?_
      clear hK K
      (refine Mix.wpMix_nil ?_; try simp only [Exit.then])
      clear x0 x1 O4 R3 B4 B5 cu2 fu2
      obtain ⟨w6, hw6⟩ : ∃ w6, w5.setCell (ady.add i) (.slice A9 (1 + kp) c9) = w6 := ⟨_, rfl⟩
      rw [hw6] at F5 ⊢
      clear hw6
      have HV5 := Lib.hid (show (its0.set i ⟨A5, m', c5, A.take m'⟩)[i + 1]? = some ⟨vA, vn, vc, vx⟩ by rw [List.getElem?_set_ne (by omega)]; exact HV.out)
      have k3 := F5.out.form.d3
      obtain ⟨cv, rv, _, fv⟩ := F5.out.at0 HV5.out
      simp only at cv
      rw [addS] at cv fv
      have R6 := Lib.hid (show RdI w6 vA vn vx from rv)
      clear rv
      go_wp2_with fail
      have x0 := Ext.cell k3; have x1 := Ext.cell cv
      refine Mix.wp_region_mix [0, 0, 0, 3, 0, 0, 0, 1, 0, 0, 0, 3, 0, 0, 0, 3, 1, 0, 2] (fun w' => ∃ x : Ext w6, w' = x.w) (by kernel_rfl) (by kernel_rfl) (InExt.drew _) ?_
      repeat (first | (refine Mix.wpMix_read (by rfl) ?_; go_big_quiet_step (fail); refine wpQuiet_nil ?_) | (refine Mix.wpMix_pure (by rfl) ?_; go_big_quiet_step (fail); refine wpQuiet_nil ?_))
      refine Mix.wpMix_chg (by rfl) (fun K hK => ?_)
      go_wp2_with fail
      refine hK _ _ ⟨⟨_, below_drew (below_size.alloc (Nat.le_refl _) _)⟩, rfl⟩ ?_
      clear hK K
      obtain ⟨w7, hw7⟩ : ∃ w7, (w6.alloc (.cells #[.int .i64 y] 2)).drew = w7 := ⟨_, rfl⟩
      have B7 := Lib.hid (show Below w6.heap.size w6 w7 by rw [← hw7]; exact below_drew (below_size.alloc (Nat.le_refl _) _))
      have O7 := Lib.hid (show Own w7 w6.heap.size 2 1 (some ⟨w6.heap.size, 0, none⟩) 1 1 [i64 y] by rw [← hw7]; exact (Own.lit1f (w := w6) (B := w6.heap.size) (e := 2) (v := i64 y) (Nat.le_refl _)).drew)
      rw [hw7]; clear hw7
      repeat (first | (refine Mix.wpMix_read (by rfl) ?_; go_big_quiet_step (fail); refine wpQuiet_nil ?_) | (refine Mix.wpMix_pure (by rfl) ?_; go_big_quiet_step (fail); refine wpQuiet_nil ?_))
      refine Mix.wpMix_chg (by rfl) (fun K hK => ?_)
      refine wp_appA (by rfl) _ _ (by rfl) w6.heap.size (some ⟨w6.heap.size, 0, none⟩) 1 1 [i64 y] (by rfl) (by exact O7.out) vA vn vc vx (by rfl) (by exact RdI.below R6.out B7.out) (by omega) B7.out.size ?_
      intro AA cA w8 own8 hb8' hk8 hg8 hz8
      have B8 := Lib.hid (B7.out.trans hb8')
      have F8 := Lib.hid (F5.out.newW (k := i + 1) (t' := ⟨AA, 1 + vn, cA, y :: vx⟩) (by omega) B8.out (by have := own8.wrK; rw [Nat.mul_one] at this; exact this) own8.cap)
      have cv2 := keepc B8.out cv
      have fv2 : w8.frozen? ⟨adx.block, adx.off + (i + 1), none⟩ = false := (B8.out.frozen (p := ⟨adx.block, adx.off + (i + 1), none⟩) (World.block_lt_of_cell? w6 _ cv)).trans fv
      clear own8 hb8' hk8 hg8
      go_wp2_with fail
      refine hK _ _ ⟨⟨_, B8.out⟩, rfl⟩ ?_
      clear hK K
      repeat (first | (refine Mix.wpMix_read (by rfl) ?_; go_big_quiet_step (fail); refine wpQuiet_nil ?_) | (refine Mix.wpMix_pure (by rfl) ?_; go_big_quiet_step (fail); refine wpQuiet_nil ?_))
      refine Mix.wpMix_tail (by rfl) (fun K hK => ?_)
      go_wp2_with fail
      refine hK _ _ ?_
      clear hK K
      (refine Mix.wpMix_nil ?_; try simp only [Exit.then])
      clear x0 x1 O7 R6 B7 B8 cv2 fv2
      obtain ⟨w9, hw9⟩ : ∃ w9, w8.setCell ⟨adx.block, adx.off + (i + 1), none⟩ (.slice AA (1 + vn) cA) = w9 := ⟨_, rfl⟩
      simp only [addS] at F8
      rw [hw9] at F8 ⊢
      clear hw9
      have k1 := F8.out.form.d1; have k2 := F8.out.form.d2; have f2 := F8.out.frz (k := 2) (by omega)
      have FIN := Lib.hid (show ∀ a' w', (if hd = i + 1 then a + 1 else a) = a' → FormW w0 lo w' g s hd a' (some adx) (n1 + 1) c0 ((its0.set i ⟨A5, m', c5, A.take m'⟩).set (i + 1) ⟨AA, 1 + vn, cA, y :: vx⟩) (some ady) n1 c1 (its1.set i ⟨A9, 1 + kp, c9, y :: ux.take kp⟩) A2 n2 c2 S.os →
          RoAt w0 lo g s hd (some adx) (n1 + 1) c0 (some ady) n1 c1 A2 n2 c2 S i m' (y :: ux.take (ux.length - 1)) (y :: vx) a' w' ∧ lenAt w' (adx.add i) = m' from fun a' w' ha hF' => by
        refine ⟨⟨⟨_, _, ?_, ?_, hF'⟩, ?_, ?_, ?_, ?_, ?_, ?_⟩, ?_⟩
        · rw [List.map_set, List.map_set, E0.out, HA.out]
          show ((((S.ws.set i (A.take (m' + 1))).set (i + 1) vx).set i (A.take m')).set (i + 1) (y :: vx)) = (S.ws.set i (A.take m')).set (i + 1) (y :: vx)
          rw [List.set_comm _ _ (show i + 1 ≠ i by omega), List.set_set, List.set_set]
        · rw [List.map_set, E1.out]
          show ((S.rs.set i ux).set i (y :: ux.take kp)) = S.rs.set i (y :: ux.take (ux.length - 1))
          rw [List.set_set, NU.out, Nat.add_sub_cancel]
        · rw [HA.out, ← ha]; exact HN.out
        · rw [HA.out]; omega
        · simp only [List.length_cons, List.length_take, NU.out]; omega
        · simp only [List.length_cons, NV.out]; omega
        · split at ha <;> omega
        · split at ha <;> omega
        · have hlt := (List.getElem?_eq_some_iff.1 HT.out).1
          exact lenAt_of (hF'.at0 (i := i) (t := ⟨A5, m', c5, A.take m'⟩) (by rw [List.getElem?_set_ne (by omega)]; exact List.getElem?_set_self hlt)).1)
      by_cases hz : hd = (i : Int) + 1
      · have g5 : (hd == (i : Int) + 1) = true := by simp [hz]
        have v5 : IntKind.i64.wrap (a + 1) = a + 1 := IntWalk.i64_in _ (by omega)
        have HZ2 := Lib.hid (show (if hd = i + 1 then a + 1 else a) = a + 1 from if_pos hz)
        clear hz
        go_wp2_with fail
        go_roundw
        case rel => exact ⟨m', y :: ux.take (ux.length - 1), y :: vx, a + 1, (FIN.out _ _ HZ2.out (F8.out.setA (a + 1))).1⟩
        case measure => have q1 := (FIN.out _ _ HZ2.out (F8.out.setA (a + 1))).2; have q2 := M0.out; rw [q1, q2]; all_goals (first | omega | (simp; done))
      · have g5 : (hd == (i : Int) + 1) = false := by simp [hz]
        have HZ2 := Lib.hid (show (if hd = i + 1 then a + 1 else a) = a from if_neg hz)
        clear hz
        go_wp2_with fail
        go_roundw
        case rel => exact ⟨m', y :: ux.take (ux.length - 1), y :: vx, a, (FIN.out _ _ HZ2.out F8.out).1⟩
        case measure => have q1 := (FIN.out _ _ HZ2.out F8.out).2; have q2 := M0.out; rw [q1, q2]; all_goals (first | omega | (simp; done))
    · have HO := Lib.hid (HOUT.out · (rotG_stop HY.out HZ.out (rot_or h1)))
      clear HOUT
      by_cases h2 : y = z
      · have g1 : (y != z) = false := by simp [h2]
        have h3 : hd = (i : Int) ∧ a = (m' : Int) := Decidable.byContradiction fun h3 => h1 ⟨h2, h3⟩
        have hq : underB hd a i m' = true := by simp [underB, h3]
        clear h1 h2 h3
        go_wp2_with fail
        go_quiet (first | (go_at_call 153; first | exact Calls.quiet_of (specUnder_c g s hd a _ _ _ its0 _ _ _ its1 _ _ _ _ i m' true _ (by exact (HF.out.world (by first | exact below_size | exact below_drewN below_size _ | exact below_drewN (below_drewN below_size _) _)).form) hq) | exact quiet_add (specUnder_c g s hd a _ _ _ its0 _ _ _ its1 _ _ _ _ i m' true _ (by exact (HF.out.world (by first | exact below_size | exact below_drewN below_size _ | exact below_drewN (below_drewN below_size _) _)).form) hq)))
        go_wp2_with fail
        refine bodyPost_ret (results_none rfl _ _ _) rfl ?_
        exact ⟨⟨_, rfl⟩, HO.out _ (by first | exact below_size | exact below_drewN below_size _ | exact below_drewN (below_drewN below_size _) _)⟩
      · have g1 : (y != z) = true := by simp [h2]
        clear h1 h2
        go_wp2_with fail
        go_quiet (fail)
        go_wp2_with fail
        refine bodyPost_ret (results_none rfl _ _ _) rfl ?_
        exact ⟨⟨_, rfl⟩, HO.out _ (by first | exact below_size | exact below_drewN below_size _ | exact below_drewN (below_drewN below_size _) _)⟩
end Go.Proofs.Ytmmgejnhfpfmnaa
