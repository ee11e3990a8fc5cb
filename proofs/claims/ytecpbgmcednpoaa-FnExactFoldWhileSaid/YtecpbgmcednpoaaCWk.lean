/-
  Contracts of chapter 22: RenameWhile of the reference, in place.
-/
import Derived.Test.YtecpbgmcednpoaaCWj
import Derived.BigRegion
namespace Go.Proofs.Ytecpbgmcednpoaa
open Go.RowKit

theorem split_at {α : Type} {l : List α} {i : Nat} (h : i < l.length) : ∃ M t Dd, l = M ++ t :: Dd ∧ M.length = i :=
  ⟨l.take i, l[i], l.drop (i + 1), by rw [← drop_at (List.getElem?_eq_getElem h), List.take_append_drop], by rw [List.length_take]; omega⟩
theorem mid_at {α : Type} {M Dd : List α} {t : α} {i : Nat} (h : M.length = i) : (M ++ t :: Dd)[i]? = some t := by rw [List.getElem?_append_right (by omega), h, Nat.sub_self]; rfl
theorem hd_xs (M Dd : List Ct) (a b d : Int) (A : Option Addr) (n c : Nat) (xs ys : List (Int × Int)) : (M ++ (⟨a, b, d, A, n, c, xs⟩ : Ct) :: Dd).flatMap hdC = (M ++ (⟨a, b, d, A, n, c, ys⟩ : Ct) :: Dd).flatMap hdC := by
  rw [List.flatMap_append, List.flatMap_append, List.flatMap_cons, List.flatMap_cons]; rfl
set_option maxHeartbeats 4000000 in
set_option maxRecDepth 100000 in
theorem sRenameWhile_c (A : Option Addr) (n c : Nat) (ps : List Ct) (O : Option Addr) (on oc : Nat) (os : List Int) {D : List Cmd} (w : World) (h : RdS w (sgCS A n ps)) (h' : RdI w O on os) (hn : n ≤ 1000000000) (hn' : on ≤ 1000000000) (hi : ∀ t ∈ ps, t.n ≤ 1000000000) (hw0 : ps.map datC = D) :
    Calls Try.prog 16 #[.slice A n c, .slice O on oc] w (CmOut2 (rwR D os) w) := by
  obtain ⟨q, hq⟩ : ∃ q, validW D = q := ⟨_, rfl⟩
  obtain ⟨p, hp⟩ : ∃ p, orderB os = p := ⟨_, rfl⟩
  obtain ⟨R, hR⟩ : ∃ R, rwR D os = R := ⟨_, rfl⟩
  rw [hR]
  have HQ := Lib.hid (show validW (ps.map datC) = q by rw [hw0]; exact hq)
  have HP := Lib.hid hp
  have HR := Lib.hid (show (if q = true then (if p = true then (D.map (renC os), 0) else ([], 2)) else ([], 1)) = R by rw [← hR, rwR, hq, hp])
  have HV := Lib.hid (show validW D = q from hq)
  have HD := Lib.hid hw0
  have HL := Lib.hid (RdCS.len h)
  have H := Lib.hid h; have HO := Lib.hid h'; have HI := Lib.hid hi; clear h h' hi hw0 hq hR hp
  go_enter Try.func16, Try.ntmps16
  go_wp2_with fail
  refine (l22Is_c A n c ps q w H.out hn HI.out HQ.out).mono ?_
  rintro e w1 ⟨rfl, hb1⟩
  have B1 := Lib.hid hb1
  have hz1 := B1.out.size
  clear hb1
  cases q
  · have HG := Lib.hid (show (([], 1) : List Cmd × Int) = R from HR.out)
    go_wp2_with fail
    go_ret2
    rw [← HG.out]
    exact CmOut2.bad 1 B1.out
  go_wp2_with fail
  refine (l06Order_c O on oc os w1 (HO.out.below B1.out) hn' p HP.out).mono ?_
  rintro e w2 ⟨rfl, rfl⟩
  cases p
  · have HG := Lib.hid (show (([], 2) : List Cmd × Int) = R from HR.out)
    go_wp2_with fail
    go_ret2
    rw [← HG.out]
    exact CmOut2.bad 2 B1.out
  have HG := Lib.hid (show (D.map (renC os), (0 : Int)) = R from HR.out)
  obtain ⟨hv1, hv2⟩ := validW_all HV.out
  have HV2 := Lib.hid hv2
  have h80 : n ≤ 80 := by rw [← HL.out, ← List.length_map (f := datC), HD.out]; exact hv1
  have HDL := Lib.hid (show D.length = n by rw [← HD.out, List.length_map, HL.out])
  have hi40 : ∀ t ∈ ps, t.n ≤ 1000000 := fun t ht => by
    have h1 : Rd2 w t.A t.n t.xs := H.out.tail (bodyC t) (List.mem_map_of_mem ht)
    obtain ⟨e1, _, _⟩ := hv2 (datC t) (by rw [← HD.out]; exact List.mem_map_of_mem ht)
    have h2 := (validE_end e1).2.2.1
    have h3 : t.xs.length = t.n := h1.len
    have h4 : t.xs.length ≤ 40 := h2
    omega
  obtain ⟨ho1, _⟩ := orderB_t HP.out
  have hon := HO.out.len
  rw [ho1] at hon
  subst hon
  have HI4 := Lib.hid hi40
  clear hv1 hv2 HR hi40 ho1
  go_wp2_with fail
  refine (l22Own_c A n c ps D w1 (H.out.below B1.out) hn HI4.out HD.out).mono ?_
  rintro e w3 ⟨A3, c3, js, rfl, ⟨hO, hj⟩, hj1, hb3⟩
  have W3 := Lib.hid (show WrS w3 w.heap.size w3.heap.size (sgCS A3 n js) from (hO.widen hz1).wrS); have J3 := Lib.hid hj; have I3 := Lib.hid hj1; have B3 := Lib.hid (below_chain B1.out hz1 hb3)
  have hz3 := B3.out.size
  clear hO hj hj1 hb3
  go_wp2_with fail
  go_loopw [7] (fun iv wr => ∃ (i : Nat) (ks : List Ct), i ≤ n ∧ iv = .int .i64 i ∧ Hid (ks.map datC = (D.take i).map (renC os) ++ D.drop i) ∧ Hid (∀ t ∈ ks, t.n ≤ 1000000) ∧ Hid (WrS wr w.heap.size w3.heap.size (sgCS A3 n ks)) ∧ Hid (KeepR w.heap.size w3.heap.size w3 wr)) (fun iv _ => n - (intOf iv).toNat)
  case atStart => exact ⟨0, js, by omega, rfl, by simpa [Hid] using J3.out, I3.out, W3.out, KeepR.refl _ _ _⟩
  case round =>
    obtain ⟨i, ks, hin, rfl, hj, hji, hW, hK⟩ := hrel
    have hb : Below w.heap.size w wr := B3.out.trans (hK.out.below (Nat.le_refl _) hz3)
    by_cases hlt : i < n
    · have hkl := RdCS.len hW.out.rd
      obtain ⟨M, t, Dd, rfl, hM⟩ := split_at (l := ks) (i := i) (by omega)
      obtain ⟨x, hx⟩ : ∃ x, D[i]? = some x := ⟨_, List.getElem?_eq_getElem (by rw [HDL.out]; exact hlt)⟩
      have hj' := hj.out
      rw [List.map_append, List.map_cons, drop_at hx] at hj'
      obtain ⟨j1, j2⟩ := List.append_inj hj' (by rw [List.length_map, List.length_map, List.length_take, hM, HDL.out]; omega)
      injection j2 with j2 j3
      have HJ1 := Lib.hid j1; have HJ3 := Lib.hid j3; have HTK := Lib.hid (take_at hx)
      obtain ⟨ad, rfl, hab⟩ : ∃ ad, A3 = some ad ∧ ad.block < wr.heap.size := by
        obtain ⟨ad, _, e, h1, _⟩ := RdCS.at_ hW.out.rd hlt
        exact ⟨ad, e, h1⟩
      obtain ⟨e1, e2, e3⟩ := HV2.out x (List.mem_of_getElem? hx)
      have hti := hji.out t (by simp)
      obtain ⟨kd, vr, ln, xA, xn, xc, xs⟩ := t
      simp only at hti
      subst j2
      simp only [datC] at e1 e2 e3
      obtain ⟨hv1, hv2, hv3, hv4⟩ := validE_end e1
      obtain ⟨hc0, hc1, hc2, hc3, hrx⟩ := RdCS.get hW.out.rd (mid_at hM)
      simp only at hc0 hc1 hc2 hc3 hrx
      have HX4 := Lib.hid hv4
      have HXL := Lib.hid (show xs.length = xn from hrx.len)
      have hvb := inB_t e3
      obtain ⟨v, rfl⟩ : ∃ v : Nat, vr = v := ⟨vr.toNat, by omega⟩
      have hv6 : v < 6 := by omega
      obtain ⟨ao, ov, rfl, hao, hov, hoc⟩ := (HO.out.below hb).at_ (k := v) hv6
      have HOV := Lib.hid hov
      have HM := Lib.hid hM
      have HJT := Lib.hid (show ∀ t ∈ M ++ Dd, t.n ≤ 1000000 from fun t ht => hji.out t (by rcases List.mem_append.1 ht with ht | ht <;> simp [ht]))
      by_cases hk0 : kd = 0
      · subst hk0
        have hW0 : WrS wr w.heap.size w3.heap.size ([] ++ ⟨some ad, n * 4, (M ++ (⟨0, (v : Int), ln, xA, xn, xc, xs⟩ : Ct) :: Dd).flatMap hdC⟩ :: (M ++ (⟨0, (v : Int), ln, xA, xn, xc, xs⟩ : Ct) :: Dd).map bodyC) := hW.out
        obtain ⟨hW1, hK1⟩ := hW0.set_at rfl (k := i * 4 + 1) (by show i * 4 + 1 < n * 4; omega) (i64 ov)
        have hf : wr.frozen? (ad.add (i * 4 + 1)) = false := by
          obtain ⟨_, _, ea, _, _, _, _, _, hf⟩ := (WrS.head (show WrS wr _ _ (_ :: _) from hW0)).at_ (k := i * 4 + 1) (by show i * 4 + 1 < n * 4; omega)
          injection ea with ea; subst ea; exact hf
        rw [flatC_set1 hM ov] at hW1
        have a1 : (⟨(ad.add (i * 4)).block, (ad.add (i * 4)).off + 1, none⟩ : Addr) = ad.add (i * 4 + 1) := next_off ad (i * 4) 0
        rw [← a1] at hf hW1 hK1
        obtain ⟨w4, hw4⟩ : ∃ w4, wr.setCell ⟨(ad.add (i * 4)).block, (ad.add (i * 4)).off + 1, none⟩ (i64 ov) = w4 := ⟨_, rfl⟩
        rw [hw4] at hW1 hK1
        have W4 := Lib.hid (show WrS w4 w.heap.size w3.heap.size (sgCS (some ad) n (M ++ (⟨0, ov, ln, xA, xn, xc, mixX os xs 0⟩ : Ct) :: Dd)) by
          rw [mixX_zero]
          have := hW1
          rw [List.nil_append, List.map_append, List.map_cons] at this
          show WrS w4 _ _ (_ :: _)
          rw [List.map_append, List.map_cons]
          exact this)
        have K4 := Lib.hid (hK.out.trans hK1)
        have HREN := Lib.hid (show renC os (0, (v : Int), ln, xs) = (0, ov, ln, xs.map (renX os)) by show (0, (if (0 : Int) = 0 then atO os (v : Int) else (v : Int)), ln, xs.map (renX os)) = _; rw [if_pos rfl, atO_at hov])
        clear hW0 hW1 hK1 a1 hW hK hrx hov hj hji hj' hkl j1 j3 hc2 hc3 hM hb hx
        go_wp2_with fail
        go_loopw [8] (fun kv wx => ∃ k : Nat, k ≤ xn ∧ kv = .int .i64 k ∧ Hid (WrS wx w.heap.size w3.heap.size (sgCS (some ad) n (M ++ (⟨0, ov, ln, xA, xn, xc, mixX os xs k⟩ : Ct) :: Dd))) ∧ Hid (KeepR w.heap.size w3.heap.size w3 wx)) (fun kv _ => xn - (intOf kv).toNat)
        case atStart => exact ⟨0, by omega, rfl, W4.out, K4.out⟩
        case round =>
          obtain ⟨k, hkx, rfl, hW5, hK5⟩ := hrel
          have hb5 : Below w.heap.size w wr := B3.out.trans (hK5.out.below (Nat.le_refl _) hz3)
          obtain ⟨hd0, hd1, hd2, hd3, hrx⟩ := RdCS.get hW5.out.rd (mid_at HM.out)
          simp only at hd0 hd1 hd2 hd3 hrx
          by_cases hltk : k < xn
          · obtain ⟨y, hy⟩ : ∃ y, xs[k]? = some y := ⟨_, List.getElem?_eq_getElem (by rw [HXL.out]; exact hltk)⟩
            have hoky : okE y = true := List.all_eq_true.1 HX4.out _ (List.mem_of_getElem? hy)
            obtain ⟨xad, y', rfl, hxab, hy', he0, he1⟩ := hrx.at_ hltk
            rw [mixX_at hy] at hy'
            injection hy' with hy'; subst hy'
            obtain ⟨t, u0⟩ := y
            have hub := okE_var hoky
            simp only at hub he0 he1
            obtain ⟨u, rfl⟩ : ∃ u : Nat, u0 = u := ⟨u0.toNat, by omega⟩
            have hu6 : u < 6 := by omega
            obtain ⟨ao', ou, eo, hao', hou, hoo⟩ := (HO.out.below hb5).at_ (k := u) hu6
            injection eo with eo; subst eo
            by_cases h1 : t = 1
            · subst h1
              have hW6 : WrS wr w.heap.size w3.heap.size ((⟨some ad, n * 4, (M ++ (⟨0, ov, ln, some xad, xn, xc, mixX os xs k⟩ : Ct) :: Dd).flatMap hdC⟩ :: M.map bodyC) ++ bodyC (⟨0, ov, ln, some xad, xn, xc, mixX os xs k⟩ : Ct) :: Dd.map bodyC) := by
                have := hW5.out
                unfold sgCS at this
                rw [List.map_append, List.map_cons] at this
                exact this
              obtain ⟨hW7, hK7⟩ := hW6.set_at rfl (k := k * 2 + 1) (by show k * 2 + 1 < xn * 2; omega) (i64 ou)
              have hf : wr.frozen? (xad.add (k * 2 + 1)) = false := by
                have hr : Wr wr w.heap.size w3.heap.size (some xad) (xn * 2) ((mixX os xs k).flatMap enc2) := hW6.each (bodyC (⟨0, ov, ln, some xad, xn, xc, mixX os xs k⟩ : Ct)) (by simp)
                obtain ⟨_, _, ea, _, _, _, _, _, hf⟩ := hr.at_ (k := k * 2 + 1) (by omega)
                injection ea with ea; subst ea; exact hf
              have a1 : (⟨(xad.add (k * 2)).block, (xad.add (k * 2)).off + 1, none⟩ : Addr) = xad.add (k * 2 + 1) := next_off xad (k * 2) 0
              rw [← a1] at hf hW7 hK7
              have W8 := Lib.hid (show WrS (wr.setCell ⟨(xad.add (k * 2)).block, (xad.add (k * 2)).off + 1, none⟩ (i64 ou)) w.heap.size w3.heap.size (sgCS (some ad) n (M ++ (⟨0, ov, ln, some xad, xn, xc, mixX os xs (k + 1)⟩ : Ct) :: Dd)) by
                have h7 := hW7
                rw [show (bodyC (⟨0, ov, ln, some xad, xn, xc, mixX os xs k⟩ : Ct)).vs.set (k * 2 + 1) (i64 ou) = (mixX os xs (k + 1)).flatMap enc2 from mixX_set hy hou, hd_xs M Dd 0 ov ln (some xad) xn xc (mixX os xs k) (mixX os xs (k + 1))] at h7
                unfold sgCS
                rw [List.map_append, List.map_cons]
                exact h7)
              have K8 := Lib.hid (hK5.out.trans hK7)
              have z0 := Ext.cell hd3; have z1 := Ext.cell he1; have z2 := Ext.cell hoo
              clear hW6 hW7 hK7 hW5 hK5 hrx hy hoky hou a1 hb5 hd0 hd1 hd2
              go_wp2_with fail
              refine Mix.wp_region_mix [0, 0, 0, 0, 3, 0, 0, 0, 0, 0, 0, 3, 0, 0, 0, 3, 0, 3, 0, 0, 2] (fun w' => ∃ x : Ext wr, w' = x.w) (by kernel_rfl) (by kernel_rfl) (InExt.drew _) ?_
              repeat (first | (refine Mix.wpMix_read (by rfl) ?_; go_big_quiet_step (fail); refine wpQuiet_nil ?_) | (refine Mix.wpMix_pure (by rfl) ?_; go_big_quiet_step (fail); refine wpQuiet_nil ?_))
              refine Mix.wpMix_tail (by rfl) (fun K hK => ?_)
              go_wp2_with fail
              refine hK _ _ ?_
              clear hK K
              (refine Mix.wpMix_nil ?_; try simp only [Exit.then])
              go_wp2_with fail
              go_roundw
              case rel => exact ⟨k + 1, by omega, by go_num, ⟨W8.out.each, W8.out.apart⟩, ⟨K8.out.os, K8.out.tape, K8.out.output, K8.out.size, K8.out.block⟩⟩
              case measure => simp [intOf]; omega
            · have g1 : (t == 1) = false := by simpa using h1
              have W8 := Lib.hid (show WrS wr w.heap.size w3.heap.size (sgCS (some ad) n (M ++ (⟨0, ov, ln, some xad, xn, xc, mixX os xs (k + 1)⟩ : Ct) :: Dd)) by rw [mixX_skip hy h1]; exact hW5.out)
              clear hW5 hrx hy hoky hou hb5 hd0 hd1 hd2
              go_wp2_with fail
              go_roundw
              case rel => exact ⟨k + 1, by omega, by go_num, W8.out, hK5.out⟩
              case measure => simp [intOf]; omega
          · obtain rfl : k = xn := by omega
            clear hrx hb5 hd0 hd1 hd2
            go_wp2_with fail
            go_roundw
            case rel =>
              refine ⟨i + 1, M ++ (⟨0, ov, ln, xA, k, xc, mixX os xs k⟩ : Ct) :: Dd, by omega, by go_num, ?_, ?_, hW5.out, hK5.out⟩
              · show (M ++ (⟨0, ov, ln, xA, k, xc, mixX os xs k⟩ : Ct) :: Dd).map datC = _
                rw [List.map_append, List.map_cons, HJ1.out, HJ3.out, HTK.out, List.map_append, List.map_singleton, List.append_assoc, List.singleton_append]
                rw [show renC os (datC (⟨_, (v : Int), ln, xA, k, xc, xs⟩ : Ct)) = _ from HREN.out]
                rw [← mixX_all (os := os) (xs := xs) (n := k) (by rw [HXL.out]; exact Nat.le_refl _)]
                rfl
              · intro t ht
                rcases List.mem_append.1 ht with ht | ht
                · exact HJT.out t (List.mem_append.2 (.inl ht))
                · rcases List.mem_cons.1 ht with rfl | ht
                  · exact hti
                  · exact HJT.out t (List.mem_append.2 (.inr ht))
            case measure => simp [intOf]; omega
      · have g0 : (kd == 0) = false := by simpa using hk0
        have W4 := Lib.hid (show WrS wr w.heap.size w3.heap.size (sgCS (some ad) n (M ++ (⟨kd, (v : Int), ln, xA, xn, xc, mixX os xs 0⟩ : Ct) :: Dd)) by rw [mixX_zero]; exact hW.out)
        have K4 := Lib.hid hK.out
        have HREN := Lib.hid (show renC os (kd, (v : Int), ln, xs) = (kd, (v : Int), ln, xs.map (renX os)) by show (kd, (if kd = 0 then atO os (v : Int) else (v : Int)), ln, xs.map (renX os)) = _; rw [if_neg hk0])
        clear hW hK hrx hov hj hji hj' hkl j1 j3 hc1 hc2 hc3 hM hb hx hoc
        go_wp2_with fail
        go_loopw [8] (fun kv wx => ∃ k : Nat, k ≤ xn ∧ kv = .int .i64 k ∧ Hid (WrS wx w.heap.size w3.heap.size (sgCS (some ad) n (M ++ (⟨kd, (v : Int), ln, xA, xn, xc, mixX os xs k⟩ : Ct) :: Dd))) ∧ Hid (KeepR w.heap.size w3.heap.size w3 wx)) (fun kv _ => xn - (intOf kv).toNat)
        case atStart => exact ⟨0, by omega, rfl, W4.out, K4.out⟩
        case round =>
          obtain ⟨k, hkx, rfl, hW5, hK5⟩ := hrel
          have hb5 : Below w.heap.size w wr := B3.out.trans (hK5.out.below (Nat.le_refl _) hz3)
          obtain ⟨hd0, hd1, hd2, hd3, hrx⟩ := RdCS.get hW5.out.rd (mid_at HM.out)
          simp only at hd0 hd1 hd2 hd3 hrx
          by_cases hltk : k < xn
          · obtain ⟨y, hy⟩ : ∃ y, xs[k]? = some y := ⟨_, List.getElem?_eq_getElem (by rw [HXL.out]; exact hltk)⟩
            have hoky : okE y = true := List.all_eq_true.1 HX4.out _ (List.mem_of_getElem? hy)
            obtain ⟨xad, y', rfl, hxab, hy', he0, he1⟩ := hrx.at_ hltk
            rw [mixX_at hy] at hy'
            injection hy' with hy'; subst hy'
            obtain ⟨t, u0⟩ := y
            have hub := okE_var hoky
            simp only at hub he0 he1
            obtain ⟨u, rfl⟩ : ∃ u : Nat, u0 = u := ⟨u0.toNat, by omega⟩
            have hu6 : u < 6 := by omega
            obtain ⟨ao', ou, eo, hao', hou, hoo⟩ := (HO.out.below hb5).at_ (k := u) hu6
            injection eo with eo; subst eo
            by_cases h1 : t = 1
            · subst h1
              have hW6 : WrS wr w.heap.size w3.heap.size ((⟨some ad, n * 4, (M ++ (⟨kd, (v : Int), ln, some xad, xn, xc, mixX os xs k⟩ : Ct) :: Dd).flatMap hdC⟩ :: M.map bodyC) ++ bodyC (⟨kd, (v : Int), ln, some xad, xn, xc, mixX os xs k⟩ : Ct) :: Dd.map bodyC) := by
                have := hW5.out
                unfold sgCS at this
                rw [List.map_append, List.map_cons] at this
                exact this
              obtain ⟨hW7, hK7⟩ := hW6.set_at rfl (k := k * 2 + 1) (by show k * 2 + 1 < xn * 2; omega) (i64 ou)
              have hf : wr.frozen? (xad.add (k * 2 + 1)) = false := by
                have hr : Wr wr w.heap.size w3.heap.size (some xad) (xn * 2) ((mixX os xs k).flatMap enc2) := hW6.each (bodyC (⟨kd, (v : Int), ln, some xad, xn, xc, mixX os xs k⟩ : Ct)) (by simp)
                obtain ⟨_, _, ea, _, _, _, _, _, hf⟩ := hr.at_ (k := k * 2 + 1) (by omega)
                injection ea with ea; subst ea; exact hf
              have a1 : (⟨(xad.add (k * 2)).block, (xad.add (k * 2)).off + 1, none⟩ : Addr) = xad.add (k * 2 + 1) := next_off xad (k * 2) 0
              rw [← a1] at hf hW7 hK7
              have W8 := Lib.hid (show WrS (wr.setCell ⟨(xad.add (k * 2)).block, (xad.add (k * 2)).off + 1, none⟩ (i64 ou)) w.heap.size w3.heap.size (sgCS (some ad) n (M ++ (⟨kd, (v : Int), ln, some xad, xn, xc, mixX os xs (k + 1)⟩ : Ct) :: Dd)) by
                have h7 := hW7
                rw [show (bodyC (⟨kd, (v : Int), ln, some xad, xn, xc, mixX os xs k⟩ : Ct)).vs.set (k * 2 + 1) (i64 ou) = (mixX os xs (k + 1)).flatMap enc2 from mixX_set hy hou, hd_xs M Dd kd (v : Int) ln (some xad) xn xc (mixX os xs k) (mixX os xs (k + 1))] at h7
                unfold sgCS
                rw [List.map_append, List.map_cons]
                exact h7)
              have K8 := Lib.hid (hK5.out.trans hK7)
              have z0 := Ext.cell hd3; have z1 := Ext.cell he1; have z2 := Ext.cell hoo
              clear hW6 hW7 hK7 hW5 hK5 hrx hy hoky hou a1 hb5 hd0 hd1 hd2
              go_wp2_with fail
              refine Mix.wp_region_mix [0, 0, 0, 0, 3, 0, 0, 0, 0, 0, 0, 3, 0, 0, 0, 3, 0, 3, 0, 0, 2] (fun w' => ∃ x : Ext wr, w' = x.w) (by kernel_rfl) (by kernel_rfl) (InExt.drew _) ?_
              repeat (first | (refine Mix.wpMix_read (by rfl) ?_; go_big_quiet_step (fail); refine wpQuiet_nil ?_) | (refine Mix.wpMix_pure (by rfl) ?_; go_big_quiet_step (fail); refine wpQuiet_nil ?_))
              refine Mix.wpMix_tail (by rfl) (fun K hK => ?_)
              go_wp2_with fail
              refine hK _ _ ?_
              clear hK K
              (refine Mix.wpMix_nil ?_; try simp only [Exit.then])
              go_wp2_with fail
              go_roundw
              case rel => exact ⟨k + 1, by omega, by go_num, ⟨W8.out.each, W8.out.apart⟩, ⟨K8.out.os, K8.out.tape, K8.out.output, K8.out.size, K8.out.block⟩⟩
              case measure => simp [intOf]; omega
            · have g1 : (t == 1) = false := by simpa using h1
              have W8 := Lib.hid (show WrS wr w.heap.size w3.heap.size (sgCS (some ad) n (M ++ (⟨kd, (v : Int), ln, some xad, xn, xc, mixX os xs (k + 1)⟩ : Ct) :: Dd)) by rw [mixX_skip hy h1]; exact hW5.out)
              clear hW5 hrx hy hoky hou hb5 hd0 hd1 hd2
              go_wp2_with fail
              go_roundw
              case rel => exact ⟨k + 1, by omega, by go_num, W8.out, hK5.out⟩
              case measure => simp [intOf]; omega
          · obtain rfl : k = xn := by omega
            clear hrx hb5 hd0 hd1 hd2
            go_wp2_with fail
            go_roundw
            case rel =>
              refine ⟨i + 1, M ++ (⟨kd, (v : Int), ln, xA, k, xc, mixX os xs k⟩ : Ct) :: Dd, by omega, by go_num, ?_, ?_, hW5.out, hK5.out⟩
              · show (M ++ (⟨kd, (v : Int), ln, xA, k, xc, mixX os xs k⟩ : Ct) :: Dd).map datC = _
                rw [List.map_append, List.map_cons, HJ1.out, HJ3.out, HTK.out, List.map_append, List.map_singleton, List.append_assoc, List.singleton_append]
                rw [show renC os (datC (⟨_, (v : Int), ln, xA, k, xc, xs⟩ : Ct)) = _ from HREN.out]
                rw [← mixX_all (os := os) (xs := xs) (n := k) (by rw [HXL.out]; exact Nat.le_refl _)]
                rfl
              · intro t ht
                rcases List.mem_append.1 ht with ht | ht
                · exact HJT.out t (List.mem_append.2 (.inl ht))
                · rcases List.mem_cons.1 ht with rfl | ht
                  · exact hti
                  · exact HJT.out t (List.mem_append.2 (.inr ht))
            case measure => simp [intOf]; omega
    · obtain rfl : i = n := by omega
      have HE := Lib.hid (show ks.map datC = D.map (renC os) by rw [hj.out, List.take_of_length_le (by rw [HDL.out]; exact Nat.le_refl _), List.drop_eq_nil_of_le (by rw [HDL.out]; exact Nat.le_refl _), List.append_nil])
      have BB := Lib.hid hb
      clear hb
      go_wp2_with fail
      go_ret2
      rw [← HG.out]
      have h2 := RdCS.len hW.out.rd
      have h3 := sumE_bd ks 1000000 hji.out
      exact ⟨A3, i, c3, ks, rfl, hW.out.wider (Nat.le_refl _) hK.out.size, ⟨by omega, hji.out, by rw [sumC_eq, h2]; rw [h2] at h3; omega, HE.out⟩, BB.out⟩
end Go.Proofs.Ytecpbgmcednpoaa
