/-
  Contracts of chapter 27 (NormalFormula): a repeater's symbols taken from the wall behind it (the program's).
-/
import Derived.Test.YtmmgejnhfpfmnaaNfB
import Derived.Test.YtmmgejnhfpfmnaaC27r
namespace Go.Proofs.Ytmmgejnhfpfmnaa
open Go.RowKit

set_option maxHeartbeats 8000000 in
set_option maxRecDepth 100000 in
theorem absorb_c (w0 : World) (lo g : Nat) (s hd : Int) (A0 : Option Addr) (n0 c0 : Nat) (A1 : Option Addr) (n1 c1 : Nat) (A2 : Option Addr) (n2 c2 : Nat) (S : NF) (i : Nat) (w : World) (k : Nat) (h : NfAt w0 lo g s hd A0 n0 c0 A1 n1 c1 A2 n2 c2 S w) (ok : OkN n1 k S) (hk : k ≤ 4000) (hn0 : n0 = n1 + 1) (hn1 : 1 ≤ n1 ∧ n1 ≤ 3) (hn2 : n2 = n1) (hi : i < n1) :
    Calls Try.prog 121 #[.pointer (some ⟨g, 0, none⟩), .int .i64 i] w fun e w' => (∃ v, e = .returned v) ∧ NfAt w0 lo g s hd A0 n0 c0 A1 n1 c1 A2 n2 c2 (absN hd i S) w' := by
  have st := AbAt.start (i := i) h ok hk hi
  obtain ⟨adx, rfl⟩ := h.some0 (by omega)
  obtain ⟨ady, rfl⟩ := h.some1 (by omega)
  have ST := Lib.hid st
  have HLW := Lib.hid ok.nw; have HLR := Lib.hid ok.nr; have HLO := Lib.hid ok.no
  have hPl := ok.rep _ (getD_mem (d := []) (show i < S.rs.length by have := ok.nr; omega))
  subst hn0; subst hn2
  obtain ⟨its0, its1, e0, e1, hF⟩ := h
  have hl1 := RdII.len hF.form.r1
  obtain ⟨u, hu⟩ : ∃ u, its1[i]? = some u := ⟨_, List.getElem?_eq_getElem (by omega)⟩
  have hux : S.rs.getD i [] = u.xs := map_at e1 hu
  obtain ⟨cu, ru, lu, fu⟩ := hF.at1 hu
  have nu := ru.len
  obtain ⟨P, hP⟩ : ∃ P, S.rs.getD i [] = P := ⟨_, rfl⟩
  rw [hP] at hPl hux
  have k4 := hF.form.d4
  obtain ⟨uA, un, uc, ux⟩ := u
  simp only at cu nu hux
  subst hux
  obtain rfl : un = P.length := nu.symm
  have vi : IntKind.i64.wrap ((i : Int) + 1) = ((i + 1 : Nat) : Int) := (IntWalk.i64_in _ (by omega)).trans (by omega)
  have HP := Lib.hid hP
  clear ok st hF e0 e1 hu ru lu fu nu hl1 hP
  go_enter Try.func121, Try.ntmps121
  go_wp2_with fail
  refine (sizeI_c _ _ _ _ (by omega)).mono ?_
  rintro e w1 ⟨rfl, rfl⟩
  go_wp2_with fail
  clear cu k4
  go_loopw [] (fun wr => ∃ (b : List Int) (a o : Int), Hid (AbAt w0 lo g s hd (some adx) (n2 + 1) c0 (some ady) n2 c1 A2 n2 c2 S i b a o wr)) (fun wr => lenAt wr (adx.add (i + 1)))
  case atStart => exact ⟨_, _, _, ST.out⟩
  case round =>
    clear ST
    obtain ⟨b, a, o, hL⟩ := hrel
    have HOUT := Lib.hid (show ∀ w', (¬ (P <+: b) ∨ (hd = (i + 1 : Nat) ∧ a < P.length)) → Below wr.heap.size wr w' → NfAt w0 lo g s hd (some adx) (n2 + 1) c0 (some ady) n2 c1 A2 n2 c2 (absN hd i S) w' from fun w' ho hb => (hL.out.out (fun f => by rw [HP.out]; exact absG_stop ho f)).world hb)
    obtain ⟨⟨its0, its1, e0, e1, hF⟩, hs, hb4, ha, ho0, ho1⟩ := hL.out
    simp only at e0 e1 hF
    rw [HP.out] at hs
    have hl0 := RdII.len hF.form.r0; have hl1 := RdII.len hF.form.r1; have hl2 := hF.form.r2.len
    obtain ⟨v, hv⟩ : ∃ v, its0[i + 1]? = some v := ⟨_, List.getElem?_eq_getElem (by omega)⟩
    obtain ⟨u, hu⟩ : ∃ u, its1[i]? = some u := ⟨_, List.getElem?_eq_getElem (by omega)⟩
    have hvx : v.xs = b := by
      rw [← map_at e0 hv]
      have := HLW.out
      simp [List.getD_eq_getElem?_getD, show i + 1 < S.ws.length by omega]
    have hux : u.xs = P := by rw [← map_at e1 hu]; exact HP.out
    have hoi : (S.os.set i o)[i]? = some o := List.getElem?_set_self (by have := HLO.out; omega)
    obtain ⟨adz, rfl⟩ : ∃ adz, A2 = some adz := by
      obtain ⟨ad, _, e, _⟩ := hF.form.r2.at_ (k := i) (by omega)
      exact ⟨ad, e⟩
    obtain ⟨cv, rv, lv, fv⟩ := hF.at0 hv
    obtain ⟨cu, ru, lu, fu⟩ := hF.at1 hu
    have nv := rv.len; have nu := ru.len
    obtain ⟨vA, vn, vc, vx⟩ := v
    obtain ⟨uA', un', uc', ux'⟩ := u
    simp only at hvx hux cv rv lv cu ru lu nv nu
    subst hvx; subst hux
    obtain rfl : un' = ux'.length := nu.symm
    rw [nv] at hb4 ho1
    have k1 := hF.form.d1; have k2 := hF.form.d2; have k3 := hF.form.d3; have k4 := hF.form.d4
    rw [addS] at cv fv
    have HF := Lib.hid hF; have HV := Lib.hid hv; have RV := Lib.hid rv; have RU := Lib.hid ru; have NV := Lib.hid nv; have HS := Lib.hid hs; have HL0 := Lib.hid hl0; have E0 := Lib.hid e0; have E1 := Lib.hid e1; have HOI := Lib.hid hoi
    clear e0 e1 hF hv hu rv ru nv nu hs hl0 hl1 hl2 hL hoi
    by_cases h1 : ux' <+: vx
    · have hq : decide (ux' <+: vx) = true := decide_eq_true h1
      have hle : ux'.length ≤ vn := by have := h1.length_le; rw [NV.out] at this; exact this
      by_cases h2 : hd = (i + 1 : Nat) ∧ a < ux'.length
      · have HO := Lib.hid (HOUT.out · (.inr h2))
        have g1 : (hd == (i : Int) + 1) = true := by simp [h2.1]
        have g2 : decide (a < (ux'.length : Int)) = true := decide_eq_true h2.2
        clear h1 h2 HOUT
        go_wp2_with fail
        go_quiet (first | (go_at_call 156; first | exact Calls.quiet_of (begins_c _ _ _ vx _ ux'.length uc' ux' true _ (by exact RdI.below RV.out (by first | exact below_size | exact below_drewN below_size _ | exact below_drewN (below_drewN below_size _) _)) (by exact RdI.below RU.out (by first | exact below_size | exact below_drewN below_size _ | exact below_drewN (below_drewN below_size _) _)) lv (by omega) (by omega) hq) | exact quiet_add (begins_c _ _ _ vx _ ux'.length uc' ux' true _ (by exact RdI.below RV.out (by first | exact below_size | exact below_drewN below_size _ | exact below_drewN (below_drewN below_size _) _)) (by exact RdI.below RU.out (by first | exact below_size | exact below_drewN below_size _ | exact below_drewN (below_drewN below_size _) _)) lv (by omega) (by omega) hq)))
        go_wp2_with fail
        refine bodyPost_ret (results_none rfl _ _ _) rfl ?_
        exact ⟨⟨_, rfl⟩, HO.out _ (by first | exact below_size | exact below_drewN below_size _ | exact below_drewN (below_drewN below_size _) _)⟩
      · have HN := Lib.hid (show ∃ f, absG hd (i + 1 : Nat) ux' f (vx.drop ux'.length) (if hd = (i + 1 : Nat) then a - ux'.length else a) (o + 1) = absX hd i S ∧ vn - ux'.length ≤ f from by
          obtain ⟨f, hf, hlf⟩ := HS.out
          rw [NV.out] at hlf
          obtain ⟨f', rfl⟩ : ∃ f', f = f' + 1 := ⟨f - 1, by omega⟩
          exact ⟨f', by rw [← hf]; exact (absG_hit h1 h2 f').symm, by omega⟩)
        have HH2 := Lib.hid h2
        have M0 := Lib.hid (lenAt_of (p := adx.add (i + 1)) (by rw [addS]; exact cv))
        clear h1 h2 HOUT HS
        have RD : ∃ B, Hid (RdI wr B (vn - ux'.length) (vx.drop ux'.length) ∧ SubI ⟨vA, vn, vc, vx⟩ ⟨B, vn - ux'.length, vc - ux'.length, vx.drop ux'.length⟩) ∧ ((vc = ux'.length ∧ B = vA) ∨ (¬ vc = ux'.length ∧ ∃ adv, vA = some adv ∧ B = some (adv.add ux'.length))) := by
          obtain ⟨adv, _, rfl, _⟩ := RV.out.at_ (k := 0) (by omega)
          by_cases hc : vc = ux'.length
          · have e0 : vn - ux'.length = 0 := by omega
            have e1 : vx.drop ux'.length = [] := List.drop_eq_nil_of_le (by rw [NV.out]; omega)
            refine ⟨_, ⟨by rw [e0, e1]; exact RdI.nil, ⟨ux'.length, by simp only; omega, ?_, fun h0 => by simp only [e0] at h0; omega⟩⟩, .inl ⟨hc, rfl⟩⟩
            simp only [e0, e1, List.take_nil]
          · refine ⟨_, ⟨RV.out.drop hle, ⟨ux'.length, by simp only; omega, ?_, fun _ ad e => by simp only at e; injection e with e; subst e; rfl⟩⟩, .inr ⟨hc, adv, rfl, rfl⟩⟩
            simp only
            rw [List.take_of_length_le (by rw [List.length_drop, NV.out]; omega)]
        obtain ⟨B, hB, hBc⟩ := RD
        have FIN := Lib.hid (show ∀ B' c' a' w', (if hd = (i + 1 : Nat) then a - ux'.length else a) = a' → FormW w0 lo w' g s hd a' (some adx) (n2 + 1) c0 (its0.set (i + 1) ⟨B', vn - ux'.length, c', vx.drop ux'.length⟩) (some ady) n2 c1 its1 (some adz) n2 c2 ((S.os.set i o).set i (o + 1)) →
            AbAt w0 lo g s hd (some adx) (n2 + 1) c0 (some ady) n2 c1 (some adz) n2 c2 S i (vx.drop ux'.length) a' (o + 1) w' ∧ lenAt w' (adx.add (i + 1)) = vn - ux'.length from fun B' c' a' w' ha' hF' => by
          have hdl : (vx.drop ux'.length).length = vn - ux'.length := by rw [List.length_drop, NV.out]
          refine ⟨⟨⟨its0.set (i + 1) ⟨B', vn - ux'.length, c', vx.drop ux'.length⟩, its1, ?_, E1.out, ?_⟩, ?_, ?_, ?_, ?_, ?_⟩, ?_⟩
          · rw [List.map_set, E0.out, List.set_set]
          · rw [List.set_set] at hF'; exact hF'
          · rw [HP.out, ← ha', hdl]; exact HN.out
          · rw [hdl]; omega
          · have := HH2.out
            split at ha'
            · rename_i hx; have : ¬ a < (ux'.length : Int) := fun h => this ⟨hx, h⟩; omega
            · omega
          · omega
          · rw [hdl]; omega
          · have hlt := (List.getElem?_eq_some_iff.1 HV.out).1
            exact lenAt_of (hF'.at0 (i := i + 1) (List.getElem?_set_self hlt)).1)
        by_cases hz : hd = (i + 1 : Nat)
        · have g1 : (hd == (i : Int) + 1) = true := by simp [hz]
          have g2 : decide (a < (ux'.length : Int)) = false := decide_eq_false fun h => HH2.out ⟨hz, h⟩
          have v5 : IntKind.i64.wrap (a - (ux'.length : Int)) = a - ux'.length := IntWalk.i64_in _ (by omega)
          have HZ2 := Lib.hid (show (if hd = (i + 1 : Nat) then a - ux'.length else a) = a - ux'.length from if_pos hz)
          clear hz
          rcases hBc with ⟨rfl, rfl⟩ | ⟨hc, adv, rfl, rfl⟩
          · skip
            obtain rfl : vn = ux'.length := by omega
            rw [Nat.sub_self] at hB FIN
            go_wp2_with fail
            go_quiet (first | (go_at_call 156; first | exact Calls.quiet_of (begins_c _ _ _ vx _ ux'.length uc' ux' true _ (by exact RdI.below RV.out (by first | exact below_size | exact below_drewN below_size _ | exact below_drewN (below_drewN below_size _) _)) (by exact RdI.below RU.out (by first | exact below_size | exact below_drewN below_size _ | exact below_drewN (below_drewN below_size _) _)) lv (by omega) (by omega) hq) | exact quiet_add (begins_c _ _ _ vx _ ux'.length uc' ux' true _ (by exact RdI.below RV.out (by first | exact below_size | exact below_drewN below_size _ | exact below_drewN (below_drewN below_size _) _)) (by exact RdI.below RU.out (by first | exact below_size | exact below_drewN below_size _ | exact below_drewN (below_drewN below_size _) _)) lv (by omega) (by omega) hq)))
            obtain ⟨W, hW⟩ : ∃ W, wr.drewN nq = W := ⟨_, rfl⟩
            have BW := Lib.hid (show Below wr.heap.size wr W from by rw [← hW]; exact below_drewN below_size _)
            rw [hW]
            clear hW
            have HF := Lib.hid (HF.out.world BW.out)
            have RB := Lib.hid (RdI.below hB.out.1 BW.out)
            have k1 := HF.out.form.d1; have k2 := HF.out.form.d2; have k3 := HF.out.form.d3; have f2 := HF.out.frz (k := 2) (by omega)
            obtain ⟨cv, _, _, fv⟩ := HF.out.at0 HV.out
            simp only [addS] at cv fv
            have FA := Lib.hid (HF.out.setA (a - ux'.length))
            go_wp2_with fail
            obtain ⟨W2, hW2⟩ : ∃ W2, W.setCell ⟨g, 2, none⟩ (i64 (a - ux'.length)) = W2 := ⟨_, rfl⟩
            rw [hW2] at FA
            simp only [i64] at hW2
            rw [hW2]
            clear hW2 HF
            have HF := FA
            have k3 := HF.out.form.d3
            obtain ⟨cv, _, _, fv⟩ := HF.out.at0 HV.out
            simp only [addS] at cv fv
            have x0 := Ext.cell k3; have x1 := Ext.cell cv
            refine Mix.wp_region_mix [0, 0, 0, 3, 0, 0, 0, 0, 0, 3, 0, 0, 0, 3, 0, 0, 0, 2] (fun w' => ∃ x : Ext W2, w' = x.w) (by kernel_rfl) (by kernel_rfl) (InExt.drew _) ?_
            repeat (first | (refine Mix.wpMix_read (by rfl) ?_; go_big_quiet_step (fail); refine wpQuiet_nil ?_) | (refine Mix.wpMix_pure (by rfl) ?_; go_big_quiet_step (fail); refine wpQuiet_nil ?_))
            refine Mix.wpMix_tail (by rfl) (fun K hK => ?_)
            go_wp2_with fail
            refine hK _ _ ?_
            clear hK K
            (refine Mix.wpMix_nil ?_; try simp only [Exit.then])
            clear x0 x1
            have F2 := Lib.hid (HF.out.subW (k := i + 1) HV.out hB.out.2 (by show 0 ≤ 0; omega))
            simp only [addS] at F2
            obtain ⟨w3, hw3⟩ : ∃ w3, (W2.setCell ⟨adx.block, adx.off + (i + 1), none⟩ (.slice (B) (0) (0))).drew = w3 := ⟨_, rfl⟩
            have F3 := Lib.hid (F2.out.world (w' := w3) (by rw [← hw3]; exact below_drew below_size))
            rw [hw3]
            clear hw3 F2
            have k5 := F3.out.form.d5
            obtain ⟨co, fo⟩ := F3.out.at2 HOI.out
            have vo : IntKind.i64.wrap (o + 1) = o + 1 := IntWalk.i64_in _ (by omega)
            have F4 := Lib.hid (F3.out.setO (k := i) hi (o + 1))
            go_wp2_with fail
            go_roundw
            case rel => exact ⟨vx.drop ux'.length, a - ux'.length, o + 1, (FIN.out _ _ _ _ HZ2.out F4.out).1⟩
            case measure => have q1 := (FIN.out _ _ _ _ HZ2.out F4.out).2; have q2 := M0.out; rw [q1, q2]; all_goals (first | omega | (simp; done))
          · skip
            go_wp2_with fail
            go_quiet (first | (go_at_call 156; first | exact Calls.quiet_of (begins_c _ _ _ vx _ ux'.length uc' ux' true _ (by exact RdI.below RV.out (by first | exact below_size | exact below_drewN below_size _ | exact below_drewN (below_drewN below_size _) _)) (by exact RdI.below RU.out (by first | exact below_size | exact below_drewN below_size _ | exact below_drewN (below_drewN below_size _) _)) lv (by omega) (by omega) hq) | exact quiet_add (begins_c _ _ _ vx _ ux'.length uc' ux' true _ (by exact RdI.below RV.out (by first | exact below_size | exact below_drewN below_size _ | exact below_drewN (below_drewN below_size _) _)) (by exact RdI.below RU.out (by first | exact below_size | exact below_drewN below_size _ | exact below_drewN (below_drewN below_size _) _)) lv (by omega) (by omega) hq)))
            obtain ⟨W, hW⟩ : ∃ W, wr.drewN nq = W := ⟨_, rfl⟩
            have BW := Lib.hid (show Below wr.heap.size wr W from by rw [← hW]; exact below_drewN below_size _)
            rw [hW]
            clear hW
            have HF := Lib.hid (HF.out.world BW.out)
            have RB := Lib.hid (RdI.below hB.out.1 BW.out)
            have k1 := HF.out.form.d1; have k2 := HF.out.form.d2; have k3 := HF.out.form.d3; have f2 := HF.out.frz (k := 2) (by omega)
            obtain ⟨cv, _, _, fv⟩ := HF.out.at0 HV.out
            simp only [addS] at cv fv
            have FA := Lib.hid (HF.out.setA (a - ux'.length))
            go_wp2_with fail
            obtain ⟨W2, hW2⟩ : ∃ W2, W.setCell ⟨g, 2, none⟩ (i64 (a - ux'.length)) = W2 := ⟨_, rfl⟩
            rw [hW2] at FA
            simp only [i64] at hW2
            rw [hW2]
            clear hW2 HF
            have HF := FA
            have k3 := HF.out.form.d3
            obtain ⟨cv, _, _, fv⟩ := HF.out.at0 HV.out
            simp only [addS] at cv fv
            have x0 := Ext.cell k3; have x1 := Ext.cell cv
            refine Mix.wp_region_mix [0, 0, 0, 3, 0, 0, 0, 0, 0, 3, 0, 0, 0, 3, 0, 0, 0, 2] (fun w' => ∃ x : Ext W2, w' = x.w) (by kernel_rfl) (by kernel_rfl) (InExt.drew _) ?_
            repeat (first | (refine Mix.wpMix_read (by rfl) ?_; go_big_quiet_step (fail); refine wpQuiet_nil ?_) | (refine Mix.wpMix_pure (by rfl) ?_; go_big_quiet_step (fail); refine wpQuiet_nil ?_))
            refine Mix.wpMix_tail (by rfl) (fun K hK => ?_)
            go_wp2_with fail
            refine hK _ _ ?_
            clear hK K
            (refine Mix.wpMix_nil ?_; try simp only [Exit.then])
            clear x0 x1
            have F2 := Lib.hid (HF.out.subW (k := i + 1) HV.out hB.out.2 (by show vn - ux'.length ≤ vc - ux'.length; omega))
            simp only [addS] at F2
            obtain ⟨w3, hw3⟩ : ∃ w3, (W2.setCell ⟨adx.block, adx.off + (i + 1), none⟩ (.slice (some (adv.add ux'.length)) (vn - ux'.length) (vc - ux'.length))).drew = w3 := ⟨_, rfl⟩
            have F3 := Lib.hid (F2.out.world (w' := w3) (by rw [← hw3]; exact below_drew below_size))
            rw [hw3]
            clear hw3 F2
            have k5 := F3.out.form.d5
            obtain ⟨co, fo⟩ := F3.out.at2 HOI.out
            have vo : IntKind.i64.wrap (o + 1) = o + 1 := IntWalk.i64_in _ (by omega)
            have F4 := Lib.hid (F3.out.setO (k := i) hi (o + 1))
            go_wp2_with fail
            go_roundw
            case rel => exact ⟨vx.drop ux'.length, a - ux'.length, o + 1, (FIN.out _ _ _ _ HZ2.out F4.out).1⟩
            case measure => have q1 := (FIN.out _ _ _ _ HZ2.out F4.out).2; have q2 := M0.out; rw [q1, q2]; all_goals (first | omega | (simp; done))
        · have g1 : (hd == (i : Int) + 1) = false := by simp; omega
          have HZ2 := Lib.hid (show (if hd = (i + 1 : Nat) then a - ux'.length else a) = a from if_neg hz)
          clear hz
          rcases hBc with ⟨rfl, rfl⟩ | ⟨hc, adv, rfl, rfl⟩
          · skip
            obtain rfl : vn = ux'.length := by omega
            rw [Nat.sub_self] at hB FIN
            go_wp2_with fail
            go_quiet (first | (go_at_call 156; first | exact Calls.quiet_of (begins_c _ _ _ vx _ ux'.length uc' ux' true _ (by exact RdI.below RV.out (by first | exact below_size | exact below_drewN below_size _ | exact below_drewN (below_drewN below_size _) _)) (by exact RdI.below RU.out (by first | exact below_size | exact below_drewN below_size _ | exact below_drewN (below_drewN below_size _) _)) lv (by omega) (by omega) hq) | exact quiet_add (begins_c _ _ _ vx _ ux'.length uc' ux' true _ (by exact RdI.below RV.out (by first | exact below_size | exact below_drewN below_size _ | exact below_drewN (below_drewN below_size _) _)) (by exact RdI.below RU.out (by first | exact below_size | exact below_drewN below_size _ | exact below_drewN (below_drewN below_size _) _)) lv (by omega) (by omega) hq)))
            obtain ⟨W, hW⟩ : ∃ W, wr.drewN nq = W := ⟨_, rfl⟩
            have BW := Lib.hid (show Below wr.heap.size wr W from by rw [← hW]; exact below_drewN below_size _)
            rw [hW]
            clear hW
            have HF := Lib.hid (HF.out.world BW.out)
            have RB := Lib.hid (RdI.below hB.out.1 BW.out)
            have k1 := HF.out.form.d1; have k2 := HF.out.form.d2; have k3 := HF.out.form.d3; have f2 := HF.out.frz (k := 2) (by omega)
            obtain ⟨cv, _, _, fv⟩ := HF.out.at0 HV.out
            simp only [addS] at cv fv
            go_wp2_with fail
            obtain ⟨W2, hW2⟩ : ∃ W2, W = W2 := ⟨_, rfl⟩
            rw [hW2] at k1 k2 k3 f2 cv fv HF ⊢
            clear hW2
            have x0 := Ext.cell k3; have x1 := Ext.cell cv
            refine Mix.wp_region_mix [0, 0, 0, 3, 0, 0, 0, 0, 0, 3, 0, 0, 0, 3, 0, 0, 0, 2] (fun w' => ∃ x : Ext W2, w' = x.w) (by kernel_rfl) (by kernel_rfl) (InExt.drew _) ?_
            repeat (first | (refine Mix.wpMix_read (by rfl) ?_; go_big_quiet_step (fail); refine wpQuiet_nil ?_) | (refine Mix.wpMix_pure (by rfl) ?_; go_big_quiet_step (fail); refine wpQuiet_nil ?_))
            refine Mix.wpMix_tail (by rfl) (fun K hK => ?_)
            go_wp2_with fail
            refine hK _ _ ?_
            clear hK K
            (refine Mix.wpMix_nil ?_; try simp only [Exit.then])
            clear x0 x1
            have F2 := Lib.hid (HF.out.subW (k := i + 1) HV.out hB.out.2 (by show 0 ≤ 0; omega))
            simp only [addS] at F2
            obtain ⟨w3, hw3⟩ : ∃ w3, (W2.setCell ⟨adx.block, adx.off + (i + 1), none⟩ (.slice (B) (0) (0))).drew = w3 := ⟨_, rfl⟩
            have F3 := Lib.hid (F2.out.world (w' := w3) (by rw [← hw3]; exact below_drew below_size))
            rw [hw3]
            clear hw3 F2
            have k5 := F3.out.form.d5
            obtain ⟨co, fo⟩ := F3.out.at2 HOI.out
            have vo : IntKind.i64.wrap (o + 1) = o + 1 := IntWalk.i64_in _ (by omega)
            have F4 := Lib.hid (F3.out.setO (k := i) hi (o + 1))
            go_wp2_with fail
            go_roundw
            case rel => exact ⟨vx.drop ux'.length, a, o + 1, (FIN.out _ _ _ _ HZ2.out F4.out).1⟩
            case measure => have q1 := (FIN.out _ _ _ _ HZ2.out F4.out).2; have q2 := M0.out; rw [q1, q2]; all_goals (first | omega | (simp; done))
          · skip
            go_wp2_with fail
            go_quiet (first | (go_at_call 156; first | exact Calls.quiet_of (begins_c _ _ _ vx _ ux'.length uc' ux' true _ (by exact RdI.below RV.out (by first | exact below_size | exact below_drewN below_size _ | exact below_drewN (below_drewN below_size _) _)) (by exact RdI.below RU.out (by first | exact below_size | exact below_drewN below_size _ | exact below_drewN (below_drewN below_size _) _)) lv (by omega) (by omega) hq) | exact quiet_add (begins_c _ _ _ vx _ ux'.length uc' ux' true _ (by exact RdI.below RV.out (by first | exact below_size | exact below_drewN below_size _ | exact below_drewN (below_drewN below_size _) _)) (by exact RdI.below RU.out (by first | exact below_size | exact below_drewN below_size _ | exact below_drewN (below_drewN below_size _) _)) lv (by omega) (by omega) hq)))
            obtain ⟨W, hW⟩ : ∃ W, wr.drewN nq = W := ⟨_, rfl⟩
            have BW := Lib.hid (show Below wr.heap.size wr W from by rw [← hW]; exact below_drewN below_size _)
            rw [hW]
            clear hW
            have HF := Lib.hid (HF.out.world BW.out)
            have RB := Lib.hid (RdI.below hB.out.1 BW.out)
            have k1 := HF.out.form.d1; have k2 := HF.out.form.d2; have k3 := HF.out.form.d3; have f2 := HF.out.frz (k := 2) (by omega)
            obtain ⟨cv, _, _, fv⟩ := HF.out.at0 HV.out
            simp only [addS] at cv fv
            go_wp2_with fail
            obtain ⟨W2, hW2⟩ : ∃ W2, W = W2 := ⟨_, rfl⟩
            rw [hW2] at k1 k2 k3 f2 cv fv HF ⊢
            clear hW2
            have x0 := Ext.cell k3; have x1 := Ext.cell cv
            refine Mix.wp_region_mix [0, 0, 0, 3, 0, 0, 0, 0, 0, 3, 0, 0, 0, 3, 0, 0, 0, 2] (fun w' => ∃ x : Ext W2, w' = x.w) (by kernel_rfl) (by kernel_rfl) (InExt.drew _) ?_
            repeat (first | (refine Mix.wpMix_read (by rfl) ?_; go_big_quiet_step (fail); refine wpQuiet_nil ?_) | (refine Mix.wpMix_pure (by rfl) ?_; go_big_quiet_step (fail); refine wpQuiet_nil ?_))
            refine Mix.wpMix_tail (by rfl) (fun K hK => ?_)
            go_wp2_with fail
            refine hK _ _ ?_
            clear hK K
            (refine Mix.wpMix_nil ?_; try simp only [Exit.then])
            clear x0 x1
            have F2 := Lib.hid (HF.out.subW (k := i + 1) HV.out hB.out.2 (by show vn - ux'.length ≤ vc - ux'.length; omega))
            simp only [addS] at F2
            obtain ⟨w3, hw3⟩ : ∃ w3, (W2.setCell ⟨adx.block, adx.off + (i + 1), none⟩ (.slice (some (adv.add ux'.length)) (vn - ux'.length) (vc - ux'.length))).drew = w3 := ⟨_, rfl⟩
            have F3 := Lib.hid (F2.out.world (w' := w3) (by rw [← hw3]; exact below_drew below_size))
            rw [hw3]
            clear hw3 F2
            have k5 := F3.out.form.d5
            obtain ⟨co, fo⟩ := F3.out.at2 HOI.out
            have vo : IntKind.i64.wrap (o + 1) = o + 1 := IntWalk.i64_in _ (by omega)
            have F4 := Lib.hid (F3.out.setO (k := i) hi (o + 1))
            go_wp2_with fail
            go_roundw
            case rel => exact ⟨vx.drop ux'.length, a, o + 1, (FIN.out _ _ _ _ HZ2.out F4.out).1⟩
            case measure => have q1 := (FIN.out _ _ _ _ HZ2.out F4.out).2; have q2 := M0.out; rw [q1, q2]; all_goals (first | omega | (simp; done))
    · have hq : decide (ux' <+: vx) = false := decide_eq_false h1
      have HO := Lib.hid (HOUT.out · (.inl h1))
      clear h1 HOUT
      go_wp2_with fail
      go_quiet (first | (go_at_call 156; first | exact Calls.quiet_of (begins_c _ _ _ vx _ ux'.length uc' ux' false _ (by exact RdI.below RV.out (by first | exact below_size | exact below_drewN below_size _ | exact below_drewN (below_drewN below_size _) _)) (by exact RdI.below RU.out (by first | exact below_size | exact below_drewN below_size _ | exact below_drewN (below_drewN below_size _) _)) lv (by omega) (by omega) hq) | exact quiet_add (begins_c _ _ _ vx _ ux'.length uc' ux' false _ (by exact RdI.below RV.out (by first | exact below_size | exact below_drewN below_size _ | exact below_drewN (below_drewN below_size _) _)) (by exact RdI.below RU.out (by first | exact below_size | exact below_drewN below_size _ | exact below_drewN (below_drewN below_size _) _)) lv (by omega) (by omega) hq)))
      go_wp2_with fail
      go_end0
      exact ⟨⟨_, rfl⟩, HO.out _ (by first | exact below_size | exact below_drewN below_size _ | exact below_drewN (below_drewN below_size _) _)⟩
end Go.Proofs.Ytmmgejnhfpfmnaa
