/-
  Contracts of chapter 22: the variables of a program.
-/
import Derived.Test.YtecpbgmcednpoaaCWc
import Derived.Test.YtecpbgmcednpoaaPWb
namespace Go.Proofs.Ytecpbgmcednpoaa
open Go.RowKit

theorem RdCS.get {w : World} {ad : Addr} {n k : Nat} {ps : List Ct} {t : Ct} (h : RdS w (sgCS (some ad) n ps)) (ht : ps[k]? = some t) : w.cell? (ad.add (k * 4)) = some (i64 t.kd) ∧ w.cell? ⟨(ad.add (k * 4)).block, (ad.add (k * 4)).off + 1, none⟩ = some (i64 t.vr) ∧
    w.cell? ⟨(ad.add (k * 4)).block, (ad.add (k * 4)).off + 2, none⟩ = some (i64 t.ln) ∧ w.cell? ⟨(ad.add (k * 4)).block, (ad.add (k * 4)).off + 3, none⟩ = some (.slice t.A t.n t.c) ∧ Rd2 w t.A t.n t.xs := by
  have hk : k < n := by have := (List.getElem?_eq_some_iff.1 ht).1; rw [RdCS.len h] at this; exact this
  obtain ⟨ad', t', e, _, ht', h0, h1, h2, h3, hr⟩ := RdCS.at_ h hk
  injection e with e; subst e
  rw [ht] at ht'; injection ht' with ht'; subst ht'
  exact ⟨h0, h1, h2, h3, hr.head⟩

set_option maxHeartbeats 4000000 in
set_option maxRecDepth 100000 in
theorem sWhileVariables_c (A : Option Addr) (n c : Nat) (ps : List Ct) {D : List Cmd} (w : World) (h : RdS w (sgCS A n ps)) (hn : n ≤ 1000000000) (hi : ∀ t ∈ ps, t.n ≤ 1000000000) (hw0 : ps.map datC = D) :
    Calls Try.prog 8 #[.slice A n c] w (IntsOut2 (wvR D) w) := by
  obtain ⟨q, hq⟩ : ∃ q, validW D = q := ⟨_, rfl⟩
  obtain ⟨R, hR⟩ : ∃ R, wvR D = R := ⟨_, rfl⟩
  rw [hR]
  have HQ := Lib.hid (show validW (ps.map datC) = q by rw [hw0]; exact hq)
  have HR := Lib.hid (show (if q = true then (normV (varsW D), 0) else ([], 1)) = R by rw [← hR, wvR, hq])
  have HV := Lib.hid (show q = true → D.length ≤ 80 ∧ ∀ c ∈ D, validE c.2.2.2 = true ∧ (c.1 = 0 ∨ c.1 = 1) ∧ inB c.2.1 0 5 = true from fun h => validW_all (hq.trans h))
  have HL := Lib.hid (RdCS.len h)
  have HDL := Lib.hid (show D.length = n by rw [← hw0, List.length_map, RdCS.len h])
  have HD := Lib.hid hw0
  have H := Lib.hid h; have HI := Lib.hid hi; clear h hi hw0 hq hR
  go_enter Try.func8, Try.ntmps8
  go_wp2_with fail
  refine (l22Is_c A n c ps q w H.out hn HI.out HQ.out).mono ?_
  rintro e w1 ⟨rfl, hb1⟩
  have B1 := Lib.hid hb1
  clear hb1
  cases q
  · have HG := Lib.hid (show (([], 1) : List Int × Int) = R from HR.out)
    go_wp2_with fail
    go_ret2
    rw [← HG.out]
    exact ⟨none, 0, 0, rfl, Wr.nil, by omega, B1.out⟩
  obtain ⟨h80, hall⟩ := HV.out rfl
  rw [HDL.out] at h80
  have HALL := Lib.hid hall
  obtain ⟨S, hS⟩ : ∃ S, normV (varsW D) = S := ⟨_, rfl⟩
  have HS := Lib.hid (show putW (varsW D) [] = S by rw [← hS, normV_putW])
  have HG := Lib.hid (show (S, (0 : Int)) = R by rw [← HR.out, ← hS]; rfl)
  have hzB := B1.out.size
  clear HR HV HQ hall hS
  go_wp2_with fail
  go_loopw [4, 5] (fun ov iv wr => ∃ (i cc : Nat) (O : Option Addr) (acc : List Int), i ≤ n ∧ acc.length ≤ 41 * i ∧ iv = .int .i64 i ∧ ov = .slice O acc.length cc ∧ Hid (Own wr w.heap.size 2 1 O acc.length cc (acc.map i64)) ∧ Hid (putW (varsW (D.drop i)) acc = S) ∧ Below w.heap.size w wr) (fun _ iv _ => n - (intOf iv).toNat)
  case atStart => exact ⟨0, 0, some ⟨w1.heap.size, 0, none⟩, [], by omega, by simp, rfl, rfl, Own.lit hzB, HS.out, B1.out.alloc hzB _⟩
  case round =>
    obtain ⟨i, cc, O, acc, hin, hal, rfl, rfl, hO, hr, hb⟩ := hrel
    have HB := Lib.hid hb
    have hzr := hb.size
    by_cases hlt : i < n
    · obtain ⟨ad, x, rfl, hab, hx, hc0, hc1, hc2, hc3, hrd⟩ := RdCS.at_ (H.out.below hb) hlt
      have HX := Lib.hid hx
      have HDX := Lib.hid (show D[i]? = some (datC x) by rw [← HD.out, List.getElem?_map, hx]; rfl)
      have hxv := (HALL.out _ (List.mem_of_getElem? HDX.out)).1
      have hx40 := (validE_end hxv).2.2.1
      have hxl : x.xs.length = x.n := RdCS.size (H.out.below hb) (List.mem_of_getElem? hx)
      obtain ⟨kd, vr, ln, xA, xn, xc, xs⟩ := x
      simp only [datC] at HDX hx40 hxl
      simp only at hc0 hc1 hc2 hc3
      have HR2 := Lib.hid (show putW (varsW (D.drop (i + 1))) (putW (varsE xs) (if kd = 0 then putS vr acc else acc)) = S by
        rw [← hr.out, drop_at HDX.out]
        show _ = putW (varsW1 _ ++ varsW (D.drop (i + 1))) acc
        rw [putW_app, varsW1, putW_app]
        by_cases h : kd = 0 <;> simp [h, putW_cons, putW_nil])
      have HXL := Lib.hid hxl
      have hxn : xn ≤ 40 := by omega
      clear hxv hx40 hxl hr hb hrd hx
      by_cases hk0 : kd = 0
      all_goals
        have HA : ∃ acc1 : List Int, (if kd = 0 then putS vr acc else acc) = acc1 ∧ acc1.length ≤ 41 * i + 1 := ⟨_, rfl, by
          split
          · have := putS_len (v := vr) (l := acc); omega
          · omega⟩
        obtain ⟨acc1, ha1, ha2⟩ := HA
        rw [ha1] at HR2
      · subst hk0
        have HA1 := Lib.hid (show putS vr acc = acc1 from ha1)
        clear ha1
        go_wp2_with (go_at_call 26; refine (l00Put_c _ _ _ acc vr _ hO.out.wr.rdI (by omega)).mono ?_; rw [HA1.out]; rintro e w2 ⟨A2, c2, rfl, ho2, hb2⟩)
        have O2 := Lib.hid (ho2.widen hzr); have B2 := Lib.hid (below_chain HB.out hzr hb2)
        have hz2 := B2.out.size
        clear ho2 hb2 hO HB hzr HA1 hc0 hc1 hc2 hc3 hab
        go_loopw [4, 6] (fun ov kv wx => ∃ (k c5 : Nat) (O5 : Option Addr) (b : List Int), k ≤ xn ∧ b.length ≤ 41 * i + 1 + k ∧ kv = .int .i64 k ∧ ov = .slice O5 b.length c5 ∧ Hid (Own wx w.heap.size 2 1 O5 b.length c5 (b.map i64)) ∧ Hid (putW (varsW (D.drop (i + 1))) (putW (varsE (xs.drop k)) b) = S) ∧ Below w.heap.size w wx) (fun _ kv _ => xn - (intOf kv).toNat)
        case atStart => exact ⟨0, c2, A2, acc1, by omega, by omega, rfl, rfl, O2.out, HR2.out, B2.out⟩
        case round =>
          obtain ⟨k, c5, O5, b, hkx, hbl, rfl, rfl, hO5, hr5, hb5⟩ := hrel
          have HB5 := Lib.hid hb5
          have hz5 := hb5.size
          obtain ⟨hc0, hc1, hc2, hc3, hrx⟩ := RdCS.get (H.out.below hb5) HX.out
          simp only at hc0 hc1 hc2 hc3 hrx
          by_cases hltk : k < xn
          · obtain ⟨ax, y, rfl, hay, hy, hy0, hy1⟩ := hrx.at_ hltk
            obtain ⟨t, v⟩ := y
            simp only at hy0 hy1
            have HS5 := Lib.hid (show putW (varsW (D.drop (i + 1))) (putW (varsE ((t, v) :: xs.drop (k + 1))) b) = S by rw [← hr5.out, drop_at hy])
            clear hr5 hrx hy hb5
            by_cases h1 : t = 1
            · subst h1
              have HG5 := Lib.hid (show putW (varsW (D.drop (i + 1))) (putW (varsE (xs.drop (k + 1))) (putS v b)) = S by rw [← HS5.out]; simp [varsE, putW])
              have hpl := putS_len (v := v) (l := b)
              go_wp2_with (go_at_call 26; refine (l00Put_c _ _ _ b v _ hO5.out.wr.rdI (by omega)).mono ?_; rintro e w7 ⟨A7, c7, rfl, ho7, hb7⟩)
              go_roundw
              case rel => exact ⟨k + 1, c7, A7, putS v b, by omega, by omega, by go_num, rfl, ho7.widen hz5, HG5.out, below_chain HB5.out hz5 hb7⟩
              case measure => simp [intOf]; omega
            · have g1 : (t == 1) = false := by simpa using h1
              have HG5 := Lib.hid (show putW (varsW (D.drop (i + 1))) (putW (varsE (xs.drop (k + 1))) b) = S by rw [← HS5.out]; simp [varsE, h1])
              go_wp2_with fail
              go_roundw
              case rel => exact ⟨k + 1, c5, O5, b, by omega, by omega, by go_num, rfl, hO5.out, HG5.out, HB5.out⟩
              case measure => simp [intOf]; omega
          · have HG5 := Lib.hid (show putW (varsW (D.drop (i + 1))) b = S by rw [← hr5.out, show xs.drop k = [] from List.drop_eq_nil_of_le (by rw [HXL.out]; omega)]; rfl)
            clear hr5 hrx hb5
            go_wp2_with fail
            go_roundw
            case rel => exact ⟨i + 1, c5, O5, b, by omega, by omega, by go_num, rfl, hO5.out, HG5.out, HB5.out⟩
            case measure => simp [intOf]; omega
      · have gk0 : (kd == 0) = false := by simpa using hk0
        obtain rfl : acc = acc1 := by rw [← ha1, if_neg hk0]
        clear ha1
        go_wp2_with fail
        clear hc0 hc1 hc2 hc3 hab
        go_loopw [4, 6] (fun ov kv wx => ∃ (k c5 : Nat) (O5 : Option Addr) (b : List Int), k ≤ xn ∧ b.length ≤ 41 * i + 1 + k ∧ kv = .int .i64 k ∧ ov = .slice O5 b.length c5 ∧ Hid (Own wx w.heap.size 2 1 O5 b.length c5 (b.map i64)) ∧ Hid (putW (varsW (D.drop (i + 1))) (putW (varsE (xs.drop k)) b) = S) ∧ Below w.heap.size w wx) (fun _ kv _ => xn - (intOf kv).toNat)
        case atStart => exact ⟨0, cc, O, acc, by omega, by omega, rfl, rfl, hO.out, HR2.out, HB.out⟩
        case round =>
          obtain ⟨k, c5, O5, b, hkx, hbl, rfl, rfl, hO5, hr5, hb5⟩ := hrel
          have HB5 := Lib.hid hb5
          have hz5 := hb5.size
          obtain ⟨hc0, hc1, hc2, hc3, hrx⟩ := RdCS.get (H.out.below hb5) HX.out
          simp only at hc0 hc1 hc2 hc3 hrx
          by_cases hltk : k < xn
          · obtain ⟨ax, y, rfl, hay, hy, hy0, hy1⟩ := hrx.at_ hltk
            obtain ⟨t, v⟩ := y
            simp only at hy0 hy1
            have HS5 := Lib.hid (show putW (varsW (D.drop (i + 1))) (putW (varsE ((t, v) :: xs.drop (k + 1))) b) = S by rw [← hr5.out, drop_at hy])
            clear hr5 hrx hy hb5
            by_cases h1 : t = 1
            · subst h1
              have HG5 := Lib.hid (show putW (varsW (D.drop (i + 1))) (putW (varsE (xs.drop (k + 1))) (putS v b)) = S by rw [← HS5.out]; simp [varsE, putW])
              have hpl := putS_len (v := v) (l := b)
              go_wp2_with (go_at_call 26; refine (l00Put_c _ _ _ b v _ hO5.out.wr.rdI (by omega)).mono ?_; rintro e w7 ⟨A7, c7, rfl, ho7, hb7⟩)
              go_roundw
              case rel => exact ⟨k + 1, c7, A7, putS v b, by omega, by omega, by go_num, rfl, ho7.widen hz5, HG5.out, below_chain HB5.out hz5 hb7⟩
              case measure => simp [intOf]; omega
            · have g1 : (t == 1) = false := by simpa using h1
              have HG5 := Lib.hid (show putW (varsW (D.drop (i + 1))) (putW (varsE (xs.drop (k + 1))) b) = S by rw [← HS5.out]; simp [varsE, h1])
              go_wp2_with fail
              go_roundw
              case rel => exact ⟨k + 1, c5, O5, b, by omega, by omega, by go_num, rfl, hO5.out, HG5.out, HB5.out⟩
              case measure => simp [intOf]; omega
          · have HG5 := Lib.hid (show putW (varsW (D.drop (i + 1))) b = S by rw [← hr5.out, show xs.drop k = [] from List.drop_eq_nil_of_le (by rw [HXL.out]; omega)]; rfl)
            clear hr5 hrx hb5
            go_wp2_with fail
            go_roundw
            case rel => exact ⟨i + 1, c5, O5, b, by omega, by omega, by go_num, rfl, hO5.out, HG5.out, HB5.out⟩
            case measure => simp [intOf]; omega
    · have HE := Lib.hid (show acc = S by rw [← hr.out, List.drop_eq_nil_of_le (by rw [HDL.out]; omega)]; rfl)
      clear hr hb
      go_wp2_with fail
      go_ret2
      rw [← HG.out]
      exact ⟨O, acc.length, cc, rfl, by rw [← HE.out]; exact hO.out.wr, by omega, HB.out⟩
end Go.Proofs.Ytecpbgmcednpoaa
