/-
  Texts of while programs: the reference's text of commands (l22Text, WhileText).
-/
import Derived.Test.YtkchgjegdmcnaaaDoorCVa
namespace Go.Proofs.YtkchgjegdmcnaaaDoor
open Go.RowKit

theorem lens_app (a b : List (List UInt8)) : Lib.lens (a ++ b) = Lib.lens a + Lib.lens b := by simp [Lib.lens]
theorem joinJ {L : List (List UInt8)} {J y : List UInt8} (h0 : L ≠ []) (hJ : Lib.join L [59] = J) : bs J ++ ⟨#[59]⟩ ++ bs y = bs (Lib.join (L ++ [y]) [59]) := by
  rw [join_snoc, if_neg h0, hJ, show (⟨#[59]⟩ : ByteArray) = bs [59] from rfl, bs_add, bs_add]
theorem joinZ {L : List (List UInt8)} {J y : List UInt8} (h0 : L = []) (hJ : Lib.join L [59] = J) : bs J ++ bs y = bs (Lib.join (L ++ [y]) [59]) := by
  subst h0
  rw [join_snoc, if_pos rfl, ← hJ, bs_add]; rfl
theorem setT_bs (v : Int) (t : List UInt8) : bs (Lib.itoa v) ++ ⟨#[61]⟩ ++ bs t = bs (Lib.itoa v ++ 61 :: t) := by
  rw [show (⟨#[61]⟩ : ByteArray) = bs [61] from rfl, bs_add, bs_add]; congr 1; simp
theorem whileT_bs (t u : List UInt8) : (⟨#[119]⟩ : ByteArray) ++ bs t ++ ⟨#[123]⟩ ++ bs u ++ ⟨#[125]⟩ = bs (119 :: (t ++ 123 :: (u ++ [125]))) := by
  rw [show (⟨#[119]⟩ : ByteArray) = bs [119] from rfl, show (⟨#[123]⟩ : ByteArray) = bs [123] from rfl, show (⟨#[125]⟩ : ByteArray) = bs [125] from rfl]
  simp only [bs_add]; congr 1; simp
set_option maxHeartbeats 4000000 in
set_option maxRecDepth 100000 in
theorem l22Text_c (N : Nat) : ∀ (A : Option Addr) (n cp : Nat) (ps : List Ct) (D : List Cmd) (w : World), n < N → RdS w (sgCS A n ps) → n ≤ cp → n ≤ 80 → ps.map datC = D → vcL D = true →
    Calls Tryd.prog 19 #[.slice A n cp] w fun e w' => e = .returned (.string (bs (whT D))) ∧ Below w.heap.size w w' := by
  induction N with
  | zero => intro A n cp ps D w hN; omega
  | succ N IH =>
    intro A n cp ps D w hN h hcp hn hD hv
    have HIH := Lib.hid IH
    have HL := Lib.hid (RdCS.len h)
    have H := Lib.hid h; have HV := Lib.hid hv
    have HD := Lib.hid hD
    have HDL := Lib.hid (show D.length = n by rw [← hD, List.length_map, HL.out])
    have HLW := Lib.hid (show Lib.lens (whL D) + (whL D).length ≤ 10000 by have := whL_len _ D (Nat.le_refl _) hv; rw [HDL.out] at this; omega)
    clear hD h hv IH
    go_enter Tryd.func19, Tryd.ntmps19
    go_wp2_with fail
    go_loopw [3, 4] (fun ov iv wr => ∃ (i : Nat) (L : List (List UInt8)), i ≤ n ∧ iv = .int .i64 i ∧ ov = .string (bs (Lib.join L [59])) ∧ Hid (L ++ whL (D.drop i) = whL D) ∧ Hid (vcL (D.drop i) = true) ∧ Hid (i = 0 ↔ L = []) ∧ Below w.heap.size w wr) (fun _ iv _ => n - (intOf iv).toNat)
    case atStart => exact ⟨0, [], by omega, rfl, rfl, by unfold Hid; simp, HV.out, by unfold Hid; simp, below_size⟩
    case round =>
      obtain ⟨i, L, hi, rfl, rfl, hL, hV, hL0, hb⟩ := hrel
      have HB := Lib.hid hb
      have hzB := hb.size
      by_cases hlt : i < n
      · obtain ⟨ad, x, rfl, hab, hx, hc0, hc1, hc2, hc3, hrd⟩ := RdCS.at_ (H.out.below hb) hlt
        have HX0 := Lib.hid (show D[i]? = some (datC x) by rw [← HD.out, List.getElem?_map, hx]; rfl)
        obtain ⟨kd, vr, ln, xA, xn, xc, xs⟩ := x
        simp only [datC] at HX0
        simp only at hc0 hc1 hc2 hc3 hrd
        have HRX := Lib.hid (show Rd2 wr xA xn xs from hrd.head)
        have hV' := hV.out
        rw [drop_at HX0.out] at hV'
        obtain ⟨hvx, hk⟩ := vcL_one hV'
        have HVX := Lib.hid hvx
        have hxl : (bs (exT 40 xs)).size ≤ 120 := by
          obtain ⟨q1, _, q3, q4⟩ := validE_end hvx
          rw [bs_size]; have := exT_len (N := 40) q1 q4 q3; omega
        obtain ⟨J, hJ⟩ : ∃ J, Lib.join L [59] = J := ⟨_, rfl⟩
        have hjl : (bs J).size ≤ 10000 := by
          have h1 := join_lens L 59
          have h2 := HLW.out
          rw [← hL.out, lens_app, List.length_append] at h2
          rw [bs_size, ← hJ]; omega
        rw [hJ]
        have HJ := Lib.hid hJ
        have HWD := Lib.hid (show whL (D.drop i) = whL ((kd, vr, ln, xs) :: D.drop (i + 1)) by rw [drop_at HX0.out])
        have HLD := Lib.hid (show (D.drop (i + 1)).length = n - i - 1 by rw [List.length_drop, HDL.out]; omega)
        clear hx hrd hb hV' hV hJ hvx
        rcases hk with ⟨rfl, v0, v1, rfl, hvt⟩ | ⟨rfl, rfl, m, rfl, hm, hva, hvb⟩
        · have HVT := Lib.hid hvt
          have HN := Lib.hid (show (L ++ [Lib.itoa vr ++ 61 :: exT 40 xs]) ++ whL (D.drop (i + 1)) = whL D by rw [← hL.out, HWD.out, whL_set, List.append_assoc]; rfl)
          have hdl : (bs (Lib.itoa vr)).size ≤ 21 := by rw [bs_size]; exact itoa_len (by omega)
          have f1 := Ext.cell hc1; have f3 := Ext.cell hc3
          clear hvt hc2 hc1 hc3 HWD
          by_cases hi0 : 0 < i
          · have HX := Lib.hid (show bs J ++ ⟨#[59]⟩ ++ (bs (Lib.itoa vr) ++ ⟨#[61]⟩ ++ bs (exT 40 xs)) = bs (Lib.join (L ++ [Lib.itoa vr ++ 61 :: exT 40 xs]) [59]) by
              rw [setT_bs]; exact joinJ (fun h => by have := hL0.out.2 h; omega) HJ.out)
            clear hL hL0
            go_wp2_with fail
            refine Mix.wp_region_mix [0, 0, 0, 0, 0, 3, 1, 0, 0, 0, 0, 0, 3, 1, 0, 0, 0] (fun w' => ∃ x : Ext wr, w' = x.w) (by kernel_rfl) (by kernel_rfl) (InExt.drew _) ?_
            repeat (first | (refine Mix.wpMix_read (by rfl) ?_; go_big_quiet_step (fail); refine wpQuiet_nil ?_) | (refine Mix.wpMix_pure (by rfl) ?_; go_big_quiet_step (fail); refine wpQuiet_nil ?_))
            refine Mix.wpMix_chg (by rfl) (fun K hK => ?_)
            go_wp2_with fail
            refine (l01Dec_c vr _ (by omega) (by omega)).mono ?_
            rintro e w1 ⟨rfl, hb1⟩
            have E1 := Lib.hid (show Below wr.heap.size wr w1 from below_of_drew hb1)
            clear hb1
            go_wp2_with fail
            refine hK _ _ ⟨⟨_, E1.out⟩, rfl⟩ ?_
            clear hK K
            repeat (first | (refine Mix.wpMix_read (by rfl) ?_; go_big_quiet_step (fail); refine wpQuiet_nil ?_) | (refine Mix.wpMix_pure (by rfl) ?_; go_big_quiet_step (fail); refine wpQuiet_nil ?_))
            refine Mix.wpMix_chg (by rfl) (fun K hK => ?_)
            go_wp2_with fail
            refine (l22Show_c xA xn xc xs _ (by exact Rd2.below HRX.out E1.out) HVX.out).mono ?_
            rintro e w2 ⟨rfl, hb2⟩
            have E2 := Lib.hid (below_chain E1.out E1.out.size hb2)
            clear hb2
            go_wp2_with fail
            refine hK _ _ ⟨⟨_, E2.out⟩, rfl⟩ ?_
            clear hK K
            repeat (first | (refine Mix.wpMix_read (by rfl) ?_; go_big_quiet_step (fail); refine wpQuiet_nil ?_) | (refine Mix.wpMix_pure (by rfl) ?_; go_big_quiet_step (fail); refine wpQuiet_nil ?_))
            (refine Mix.wpMix_nil ?_; try simp only [Exit.then])
            rw [HX.out]
            go_wp2_with fail
            go_roundw
            case rel => exact ⟨i + 1, L ++ [Lib.itoa vr ++ 61 :: exT 40 xs], by omega, by go_num, rfl, HN.out, HVT.out, by unfold Hid; simp, below_chain HB.out hzB E2.out⟩
            case measure => simp [intOf]; omega
          · have HX := Lib.hid (show bs J ++ (bs (Lib.itoa vr) ++ ⟨#[61]⟩ ++ bs (exT 40 xs)) = bs (Lib.join (L ++ [Lib.itoa vr ++ 61 :: exT 40 xs]) [59]) by
              rw [setT_bs]; exact joinZ (hL0.out.1 (by omega)) HJ.out)
            clear hL hL0
            go_wp2_with fail
            refine Mix.wp_region_mix [0, 0, 0, 0, 0, 3, 1, 0, 0, 0, 0, 0, 3, 1, 0, 0, 0] (fun w' => ∃ x : Ext wr, w' = x.w) (by kernel_rfl) (by kernel_rfl) (InExt.drew _) ?_
            repeat (first | (refine Mix.wpMix_read (by rfl) ?_; go_big_quiet_step (fail); refine wpQuiet_nil ?_) | (refine Mix.wpMix_pure (by rfl) ?_; go_big_quiet_step (fail); refine wpQuiet_nil ?_))
            refine Mix.wpMix_chg (by rfl) (fun K hK => ?_)
            go_wp2_with fail
            refine (l01Dec_c vr _ (by omega) (by omega)).mono ?_
            rintro e w1 ⟨rfl, hb1⟩
            have E1 := Lib.hid (show Below wr.heap.size wr w1 from below_of_drew hb1)
            clear hb1
            go_wp2_with fail
            refine hK _ _ ⟨⟨_, E1.out⟩, rfl⟩ ?_
            clear hK K
            repeat (first | (refine Mix.wpMix_read (by rfl) ?_; go_big_quiet_step (fail); refine wpQuiet_nil ?_) | (refine Mix.wpMix_pure (by rfl) ?_; go_big_quiet_step (fail); refine wpQuiet_nil ?_))
            refine Mix.wpMix_chg (by rfl) (fun K hK => ?_)
            go_wp2_with fail
            refine (l22Show_c xA xn xc xs _ (by exact Rd2.below HRX.out E1.out) HVX.out).mono ?_
            rintro e w2 ⟨rfl, hb2⟩
            have E2 := Lib.hid (below_chain E1.out E1.out.size hb2)
            clear hb2
            go_wp2_with fail
            refine hK _ _ ⟨⟨_, E2.out⟩, rfl⟩ ?_
            clear hK K
            repeat (first | (refine Mix.wpMix_read (by rfl) ?_; go_big_quiet_step (fail); refine wpQuiet_nil ?_) | (refine Mix.wpMix_pure (by rfl) ?_; go_big_quiet_step (fail); refine wpQuiet_nil ?_))
            (refine Mix.wpMix_nil ?_; try simp only [Exit.then])
            rw [HX.out]
            go_wp2_with fail
            go_roundw
            case rel => exact ⟨i + 1, L ++ [Lib.itoa vr ++ 61 :: exT 40 xs], by omega, by go_num, rfl, HN.out, HVT.out, by unfold Hid; simp, below_chain HB.out hzB E2.out⟩
            case measure => simp [intOf]; omega
        · have hm : m ≤ n - i - 1 := by rw [← HLD.out]; exact hm
          obtain ⟨T, hT⟩ : ∃ T, whT ((D.drop (i + 1)).take m) = T := ⟨_, rfl⟩
          have HVT := Lib.hid (show vcL (D.drop (i + 1 + m)) = true by rw [← List.drop_drop]; exact hvb)
          have htl : (bs T).size ≤ 10000 := by
            have h1 := whT_len hva
            rw [hT, List.length_take] at h1
            rw [bs_size]; omega
          have HN := Lib.hid (show (L ++ [119 :: (exT 40 xs ++ 123 :: (T ++ [125]))]) ++ whL (D.drop (i + 1 + m)) = whL D by rw [← hL.out, HWD.out, whL_while, List.append_assoc, ← hT, List.drop_drop]; rfl)
          have HSUB := Lib.hid (show ∀ B c wz, Below w.heap.size w wz → (B = some (ad.add ((i + 1) * 4)) ∨ m = 0) → m ≤ c →
              Calls Tryd.prog 19 #[.slice B m c] wz fun e w' => e = .returned (.string (bs T)) ∧ Below wz.heap.size wz w' from by
            intro B c wz hz hB hc
            rw [← hT]
            refine HIH.out B m c ((ps.drop (i + 1)).take m) _ wz (by omega) ?_ hc (by omega) (by rw [← HD.out, List.map_take, List.map_drop]) hva
            rcases hB with rfl | rfl
            · exact RdCS.part (H.out.below hz) (by omega)
            · exact RdS.cons ⟨rfl, fun h => absurd h (by simp)⟩ RdS.nil)
          have f3 := Ext.cell hc3
          clear hva hvb hT hc1 hc3 HWD HIH
          by_cases hkc : i + 1 = cp
          · obtain rfl : m = 0 := by omega
            by_cases hi0 : 0 < i
            · have HX := Lib.hid (show bs J ++ ⟨#[59]⟩ ++ (⟨#[119]⟩ ++ bs (exT 40 xs) ++ ⟨#[123]⟩ ++ bs T ++ ⟨#[125]⟩) = bs (Lib.join (L ++ [119 :: (exT 40 xs ++ 123 :: (T ++ [125]))]) [59]) by
                rw [whileT_bs]; exact joinJ (fun h => by have := hL0.out.2 h; omega) HJ.out)
              clear hL hL0
              go_wp2_with fail
              refine Mix.wp_region_mix [0, 0, 0, 0, 0, 3, 1, 0, 0, 0, 0, 0, 0, 0, 1, 0, 0, 0, 0] (fun w' => ∃ x : Ext wr, w' = x.w) (by kernel_rfl) (by kernel_rfl) (InExt.drew _) ?_
              repeat (first | (refine Mix.wpMix_read (by rfl) ?_; go_big_quiet_step (fail); refine wpQuiet_nil ?_) | (refine Mix.wpMix_pure (by rfl) ?_; go_big_quiet_step (fail); refine wpQuiet_nil ?_))
              refine Mix.wpMix_chg (by rfl) (fun K hK => ?_)
              go_wp2_with fail
              refine (l22Show_c xA xn xc xs _ (by exact Rd.drew HRX.out) HVX.out).mono ?_
              rintro e w2 ⟨rfl, hb2⟩
              have E2 := Lib.hid (show Below wr.heap.size wr w2 from below_of_drew hb2)
              clear hb2
              go_wp2_with fail
              refine hK _ _ ⟨⟨_, E2.out⟩, rfl⟩ ?_
              clear hK K
              repeat (first | (refine Mix.wpMix_read (by rfl) ?_; go_big_quiet_step (fail); refine wpQuiet_nil ?_) | (refine Mix.wpMix_pure (by rfl) ?_; go_big_quiet_step (fail); refine wpQuiet_nil ?_))
              refine Mix.wpMix_chg (by rfl) (fun K hK => ?_)
              go_wp2_with fail
              refine (HSUB.out _ _ _ (below_chain HB.out hzB E2.out) (by first | exact .inl rfl | exact .inr trivial | exact .inr (by omega)) (by first | exact Nat.zero_le _ | omega)).mono ?_
              rintro e w3 ⟨rfl, hb3⟩
              have E3 := Lib.hid (below_chain E2.out E2.out.size hb3)
              clear hb3
              go_wp2_with fail
              refine hK _ _ ⟨⟨_, E3.out⟩, rfl⟩ ?_
              clear hK K
              repeat (first | (refine Mix.wpMix_read (by rfl) ?_; go_big_quiet_step (fail); refine wpQuiet_nil ?_) | (refine Mix.wpMix_pure (by rfl) ?_; go_big_quiet_step (fail); refine wpQuiet_nil ?_))
              (refine Mix.wpMix_nil ?_; try simp only [Exit.then])
              rw [HX.out]
              go_wp2_with fail
              go_roundw
              case rel => exact ⟨i + 1 + 0, L ++ [119 :: (exT 40 xs ++ 123 :: (T ++ [125]))], by omega, by go_num, rfl, HN.out, HVT.out, by unfold Hid; simp, below_chain HB.out hzB E3.out⟩
              case measure => simp [intOf]; omega
            · have HX := Lib.hid (show bs J ++ (⟨#[119]⟩ ++ bs (exT 40 xs) ++ ⟨#[123]⟩ ++ bs T ++ ⟨#[125]⟩) = bs (Lib.join (L ++ [119 :: (exT 40 xs ++ 123 :: (T ++ [125]))]) [59]) by
                rw [whileT_bs]; exact joinZ (hL0.out.1 (by omega)) HJ.out)
              clear hL hL0
              go_wp2_with fail
              refine Mix.wp_region_mix [0, 0, 0, 0, 0, 3, 1, 0, 0, 0, 0, 0, 0, 0, 1, 0, 0, 0, 0] (fun w' => ∃ x : Ext wr, w' = x.w) (by kernel_rfl) (by kernel_rfl) (InExt.drew _) ?_
              repeat (first | (refine Mix.wpMix_read (by rfl) ?_; go_big_quiet_step (fail); refine wpQuiet_nil ?_) | (refine Mix.wpMix_pure (by rfl) ?_; go_big_quiet_step (fail); refine wpQuiet_nil ?_))
              refine Mix.wpMix_chg (by rfl) (fun K hK => ?_)
              go_wp2_with fail
              refine (l22Show_c xA xn xc xs _ (by exact Rd.drew HRX.out) HVX.out).mono ?_
              rintro e w2 ⟨rfl, hb2⟩
              have E2 := Lib.hid (show Below wr.heap.size wr w2 from below_of_drew hb2)
              clear hb2
              go_wp2_with fail
              refine hK _ _ ⟨⟨_, E2.out⟩, rfl⟩ ?_
              clear hK K
              repeat (first | (refine Mix.wpMix_read (by rfl) ?_; go_big_quiet_step (fail); refine wpQuiet_nil ?_) | (refine Mix.wpMix_pure (by rfl) ?_; go_big_quiet_step (fail); refine wpQuiet_nil ?_))
              refine Mix.wpMix_chg (by rfl) (fun K hK => ?_)
              go_wp2_with fail
              refine (HSUB.out _ _ _ (below_chain HB.out hzB E2.out) (by first | exact .inl rfl | exact .inr trivial | exact .inr (by omega)) (by first | exact Nat.zero_le _ | omega)).mono ?_
              rintro e w3 ⟨rfl, hb3⟩
              have E3 := Lib.hid (below_chain E2.out E2.out.size hb3)
              clear hb3
              go_wp2_with fail
              refine hK _ _ ⟨⟨_, E3.out⟩, rfl⟩ ?_
              clear hK K
              repeat (first | (refine Mix.wpMix_read (by rfl) ?_; go_big_quiet_step (fail); refine wpQuiet_nil ?_) | (refine Mix.wpMix_pure (by rfl) ?_; go_big_quiet_step (fail); refine wpQuiet_nil ?_))
              (refine Mix.wpMix_nil ?_; try simp only [Exit.then])
              rw [HX.out]
              go_wp2_with fail
              go_roundw
              case rel => exact ⟨i + 1 + 0, L ++ [119 :: (exT 40 xs ++ 123 :: (T ++ [125]))], by omega, by go_num, rfl, HN.out, HVT.out, by unfold Hid; simp, below_chain HB.out hzB E3.out⟩
              case measure => simp [intOf]; omega
          · by_cases hi0 : 0 < i
            · have HX := Lib.hid (show bs J ++ ⟨#[59]⟩ ++ (⟨#[119]⟩ ++ bs (exT 40 xs) ++ ⟨#[123]⟩ ++ bs T ++ ⟨#[125]⟩) = bs (Lib.join (L ++ [119 :: (exT 40 xs ++ 123 :: (T ++ [125]))]) [59]) by
                rw [whileT_bs]; exact joinJ (fun h => by have := hL0.out.2 h; omega) HJ.out)
              clear hL hL0
              go_wp2_with fail
              refine Mix.wp_region_mix [0, 0, 0, 0, 0, 3, 1, 0, 0, 0, 0, 0, 0, 0, 1, 0, 0, 0, 0] (fun w' => ∃ x : Ext wr, w' = x.w) (by kernel_rfl) (by kernel_rfl) (InExt.drew _) ?_
              repeat (first | (refine Mix.wpMix_read (by rfl) ?_; go_big_quiet_step (fail); refine wpQuiet_nil ?_) | (refine Mix.wpMix_pure (by rfl) ?_; go_big_quiet_step (fail); refine wpQuiet_nil ?_))
              refine Mix.wpMix_chg (by rfl) (fun K hK => ?_)
              go_wp2_with fail
              refine (l22Show_c xA xn xc xs _ (by exact Rd.drew HRX.out) HVX.out).mono ?_
              rintro e w2 ⟨rfl, hb2⟩
              have E2 := Lib.hid (show Below wr.heap.size wr w2 from below_of_drew hb2)
              clear hb2
              go_wp2_with fail
              refine hK _ _ ⟨⟨_, E2.out⟩, rfl⟩ ?_
              clear hK K
              repeat (first | (refine Mix.wpMix_read (by rfl) ?_; go_big_quiet_step (fail); refine wpQuiet_nil ?_) | (refine Mix.wpMix_pure (by rfl) ?_; go_big_quiet_step (fail); refine wpQuiet_nil ?_))
              refine Mix.wpMix_chg (by rfl) (fun K hK => ?_)
              go_wp2_with fail
              refine (HSUB.out _ _ _ (below_chain HB.out hzB E2.out) (by first | exact .inl rfl | exact .inr trivial | exact .inr (by omega)) (by first | exact Nat.zero_le _ | omega)).mono ?_
              rintro e w3 ⟨rfl, hb3⟩
              have E3 := Lib.hid (below_chain E2.out E2.out.size hb3)
              clear hb3
              go_wp2_with fail
              refine hK _ _ ⟨⟨_, E3.out⟩, rfl⟩ ?_
              clear hK K
              repeat (first | (refine Mix.wpMix_read (by rfl) ?_; go_big_quiet_step (fail); refine wpQuiet_nil ?_) | (refine Mix.wpMix_pure (by rfl) ?_; go_big_quiet_step (fail); refine wpQuiet_nil ?_))
              (refine Mix.wpMix_nil ?_; try simp only [Exit.then])
              rw [HX.out]
              go_wp2_with fail
              go_roundw
              case rel => exact ⟨i + 1 + m, L ++ [119 :: (exT 40 xs ++ 123 :: (T ++ [125]))], by omega, by go_num, rfl, HN.out, HVT.out, by unfold Hid; simp, below_chain HB.out hzB E3.out⟩
              case measure => simp [intOf]; omega
            · have HX := Lib.hid (show bs J ++ (⟨#[119]⟩ ++ bs (exT 40 xs) ++ ⟨#[123]⟩ ++ bs T ++ ⟨#[125]⟩) = bs (Lib.join (L ++ [119 :: (exT 40 xs ++ 123 :: (T ++ [125]))]) [59]) by
                rw [whileT_bs]; exact joinZ (hL0.out.1 (by omega)) HJ.out)
              clear hL hL0
              go_wp2_with fail
              refine Mix.wp_region_mix [0, 0, 0, 0, 0, 3, 1, 0, 0, 0, 0, 0, 0, 0, 1, 0, 0, 0, 0] (fun w' => ∃ x : Ext wr, w' = x.w) (by kernel_rfl) (by kernel_rfl) (InExt.drew _) ?_
              repeat (first | (refine Mix.wpMix_read (by rfl) ?_; go_big_quiet_step (fail); refine wpQuiet_nil ?_) | (refine Mix.wpMix_pure (by rfl) ?_; go_big_quiet_step (fail); refine wpQuiet_nil ?_))
              refine Mix.wpMix_chg (by rfl) (fun K hK => ?_)
              go_wp2_with fail
              refine (l22Show_c xA xn xc xs _ (by exact Rd.drew HRX.out) HVX.out).mono ?_
              rintro e w2 ⟨rfl, hb2⟩
              have E2 := Lib.hid (show Below wr.heap.size wr w2 from below_of_drew hb2)
              clear hb2
              go_wp2_with fail
              refine hK _ _ ⟨⟨_, E2.out⟩, rfl⟩ ?_
              clear hK K
              repeat (first | (refine Mix.wpMix_read (by rfl) ?_; go_big_quiet_step (fail); refine wpQuiet_nil ?_) | (refine Mix.wpMix_pure (by rfl) ?_; go_big_quiet_step (fail); refine wpQuiet_nil ?_))
              refine Mix.wpMix_chg (by rfl) (fun K hK => ?_)
              go_wp2_with fail
              refine (HSUB.out _ _ _ (below_chain HB.out hzB E2.out) (by first | exact .inl rfl | exact .inr trivial | exact .inr (by omega)) (by first | exact Nat.zero_le _ | omega)).mono ?_
              rintro e w3 ⟨rfl, hb3⟩
              have E3 := Lib.hid (below_chain E2.out E2.out.size hb3)
              clear hb3
              go_wp2_with fail
              refine hK _ _ ⟨⟨_, E3.out⟩, rfl⟩ ?_
              clear hK K
              repeat (first | (refine Mix.wpMix_read (by rfl) ?_; go_big_quiet_step (fail); refine wpQuiet_nil ?_) | (refine Mix.wpMix_pure (by rfl) ?_; go_big_quiet_step (fail); refine wpQuiet_nil ?_))
              (refine Mix.wpMix_nil ?_; try simp only [Exit.then])
              rw [HX.out]
              go_wp2_with fail
              go_roundw
              case rel => exact ⟨i + 1 + m, L ++ [119 :: (exT 40 xs ++ 123 :: (T ++ [125]))], by omega, by go_num, rfl, HN.out, HVT.out, by unfold Hid; simp, below_chain HB.out hzB E3.out⟩
              case measure => simp [intOf]; omega
      · obtain rfl : i = n := by omega
        have HR := Lib.hid (show Lib.join L [59] = whT D by
          have h1 := hL.out
          rw [List.drop_eq_nil_of_le (by rw [HDL.out]; exact Nat.le_refl _), whL_nil, List.append_nil] at h1
          rw [whT, h1])
        clear hb hL hV hL0
        go_wp2_with fail
        go_ret
        exact ⟨by rw [HR.out]; rfl, HB.out⟩
set_option maxHeartbeats 1000000 in
set_option maxRecDepth 100000 in
theorem sWhileText_c (A : Option Addr) (n c : Nat) (ps : List Ct) {D : List Cmd} (w : World) (h : RdS w (sgCS A n ps)) (hn : n ≤ 1000000000) (hnc : n ≤ c) (hi : ∀ t ∈ ps, t.n ≤ 1000000000) (hw0 : ps.map datC = D) :
    Calls Tryd.prog 7 #[.slice A n c] w fun e w' => e = .returned (.string (bs (whR D))) ∧ Below w.heap.size w w' := by
  obtain ⟨q, hq⟩ : ∃ q, validW D = q := ⟨_, rfl⟩
  have HQ := Lib.hid (show validW (ps.map datC) = q by rw [hw0]; exact hq)
  have HV := Lib.hid hq
  have HD := Lib.hid hw0
  have HL := Lib.hid (RdCS.len h)
  have H := Lib.hid h; have HI := Lib.hid hi; clear h hi hw0 hq
  go_enter Tryd.func7, Tryd.ntmps7
  go_wp2_with fail
  refine (l22Is_c A n c ps q w H.out hn HI.out HQ.out).mono ?_
  rintro e w1 ⟨rfl, hb1⟩
  have B1 := Lib.hid hb1
  clear hb1
  cases q
  · have HG := Lib.hid (show whR D = [] by rw [whR, HV.out]; rfl)
    go_wp2_with fail
    go_ret
    exact ⟨by rw [HG.out]; rfl, B1.out⟩
  have HG := Lib.hid (show whR D = whT D by rw [whR, HV.out]; rfl)
  have hv := HV.out
  simp only [validW, Bool.and_eq_true, decide_eq_true_eq] at hv
  have HC := Lib.hid hv.2
  have hn8 : n ≤ 80 := by rw [← HL.out, ← List.length_map (f := datC), HD.out]; exact hv.1
  clear hv
  go_wp2_with fail
  refine (l22Text_c (n + 1) A n c ps D w1 (by omega) (H.out.below B1.out) hnc hn8 HD.out HC.out).mono ?_
  rintro e w2 ⟨rfl, hb2⟩
  go_wp2_with fail
  go_ret
  exact ⟨by rw [HG.out]; rfl, below_chain B1.out B1.out.size hb2⟩
end Go.Proofs.YtkchgjegdmcnaaaDoor
