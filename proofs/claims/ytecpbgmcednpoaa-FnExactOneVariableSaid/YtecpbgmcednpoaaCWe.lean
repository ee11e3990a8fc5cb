/-
  Contracts of chapter 22: the variables of a program, the program's.
-/
import Derived.Test.YtecpbgmcednpoaaCWd
namespace Go.Proofs.Ytecpbgmcednpoaa
open Go.RowKit

set_option maxHeartbeats 4000000 in
set_option maxRecDepth 100000 in
theorem whileVariables_c (A : Option Addr) (n c : Nat) (ps : List Ct) (D : List Cmd) (S : List Int) (w : World) (h : RdS w (sgCS A n ps)) (hD : ps.map datC = D) (hv : validW D = true) (hS : normV (varsW D) = S) :
    Calls Try.prog 29 #[.slice A n c] w fun e w' => ∃ A' m cap, e = .returned (.slice A' m cap) ∧ Wr w' w.heap.size w'.heap.size A' m (S.map i64) ∧ m ≤ 1000000 ∧ Below w.heap.size w w' := by
  obtain ⟨h80, hall⟩ := validW_all hv
  have HALL := Lib.hid hall
  have HL := Lib.hid (RdCS.len h)
  have HDL := Lib.hid (show D.length = n by rw [← hD, List.length_map, RdCS.len h])
  have HD := Lib.hid hD
  rw [HDL.out] at h80
  have H := Lib.hid h; have HS := Lib.hid hS; clear h hv hS hD hall
  go_enter Try.func29, Try.ntmps29
  go_wp2_with fail
  go_loopw [3, 11] (fun ov iv wr => ∃ (i m g cc : Nat) (acc : List Int), i ≤ n ∧ m ≤ 41 * i ∧ iv = .int .i64 i ∧ ov = .slice (some ⟨g, 0, none⟩) m cc ∧ Hid (Own wr w.heap.size 2 1 (some ⟨g, 0, none⟩) m cc (acc.map i64)) ∧ Hid (acc ++ varsW (D.drop i) = varsW D) ∧ Below w.heap.size w wr) (fun _ iv _ => n - (intOf iv).toNat)
  case atStart => exact ⟨0, 0, w.heap.size, 0, [], by omega, by omega, rfl, rfl, Own.lit (Nat.le_refl _), rfl, below_size.alloc (Nat.le_refl _) _⟩
  case round =>
    obtain ⟨i, m, g, cc, acc, hin, hml, rfl, rfl, hO, hr, hb⟩ := hrel
    have HB := Lib.hid hb
    have hzr := hb.size
    by_cases hlt : i < n
    · obtain ⟨ad, x, rfl, hab, hx, hc0, hc1, hc2, hc3, hrd⟩ := RdCS.at_ (H.out.below hb) hlt
      have HX := Lib.hid hx
      have HDX := Lib.hid (show D[i]? = some (datC x) by rw [← HD.out, List.getElem?_map, hx]; rfl)
      have hxv := (HALL.out _ (List.mem_of_getElem? HDX.out)).1
      have hx40 := (validE_end hxv).2.2.1
      have hxl : x.xs.length = x.n := RdCS.size (H.out.below hb) (List.mem_of_getElem? hx)
      obtain ⟨kd, vr, ln, xA, xn, xc, xs⟩ := x
      simp only [datC] at HDX hx40 hxl
      simp only at hc0 hc1 hc2 hc3
      have HS1 := Lib.hid (show acc ++ (if kd = 0 then [vr] else []) ++ varsE xs ++ varsW (D.drop (i + 1)) = varsW D by
        rw [← hr.out, drop_at HDX.out]
        show _ = acc ++ (varsW1 _ ++ varsW (D.drop (i + 1)))
        rw [varsW1]; simp)
      have HXL := Lib.hid hxl
      have hxn : xn ≤ 40 := by omega
      have hgl : g < wr.heap.size := (hO.out.block rfl).2.1
      clear hxv hx40 hxl hr hb hrd hx
      obtain ⟨w4, hw4⟩ : ∃ w4, wr.alloc (.cells #[.int .i64 kd, .int .i64 vr, .int .i64 ln, .slice xA xn xc] 46) = w4 := ⟨_, rfl⟩
      have B4 := Lib.hid (show Below w.heap.size w w4 by rw [← hw4]; exact HB.out.alloc hzr _)
      have O4 := Lib.hid (show Own w4 w.heap.size 2 1 (some ⟨g, 0, none⟩) m cc (acc.map i64) by rw [← hw4]; exact hO.out.alloc _)
      have x0 : w4.cell? ⟨wr.heap.size, 0, none⟩ = some (.int .i64 kd) := by rw [← hw4]; exact new_cell _ _ _ 0
      have x1 : w4.cell? ⟨wr.heap.size, 1, none⟩ = some (.int .i64 vr) := by rw [← hw4]; exact new_cell _ _ _ 1
      have x3 : w4.cell? ⟨wr.heap.size, 3, none⟩ = some (.slice xA xn xc) := by rw [← hw4]; exact new_cell _ _ _ 3
      have hz4 := B4.out.size
      have hl4 : wr.heap.size < w4.heap.size := by rw [← hw4]; simp
      clear hO HB
      by_cases hk0 : kd = 0
      · subst hk0
        have HR2 := Lib.hid (show (acc ++ [vr]) ++ varsE xs ++ varsW (D.drop (i + 1)) = varsW D by rw [← HS1.out]; simp)
        go_wp2_with (at_builtin; refine wp_app1 (by rfl) _ _ 24 2 (.int .i64 0) 8 (by rfl) Try.underlying24 info_i64 rfl w.heap.size (some ⟨g, 0, none⟩) m cc (acc.map i64) (by rfl) (by exact O4.out.alloc _) w4.heap.size (i64 vr) (by rfl) (by exact new_cell _ _ _ 0) rfl (by omega) (by omega) (by simp; omega) ?_; intro g3 cap3 w3 own3 hb3 hk3 hg3 hz3; have y3 : w3.cell? ⟨wr.heap.size, 3, none⟩ = some (.slice xA xn xc) := (World.cell?_of_block (a := ⟨wr.heap.size, 3, none⟩) (hk3 wr.heap.size (by simp; omega) (fun ad' e => by injection e with e; subst e; show g ≠ wr.heap.size; omega))).trans (keepa _ x3))
        have O3 := Lib.hid (show Own w3 w.heap.size 2 1 (some ⟨g3, 0, none⟩) (m + 1) cap3 ((acc ++ [vr]).map i64) by rw [List.map_append]; exact own3)
        have B3 := Lib.hid ((B4.out.alloc hz4 _).trans hb3)
        clear own3 hb3 hk3 hg3 hz3 x0 x1 x3 O4 B4 hc0 hc1 hc2 hc3 hab
        go_wp2_with fail
        go_loopw [3, 26] (fun ov kv wx => ∃ (k m5 g5 c5 : Nat) (b : List Int), k ≤ xn ∧ m5 ≤ 41 * i + 1 + k ∧ kv = .int .i64 k ∧ ov = .slice (some ⟨g5, 0, none⟩) m5 c5 ∧ Hid (Own wx w.heap.size 2 1 (some ⟨g5, 0, none⟩) m5 c5 (b.map i64)) ∧ Hid (b ++ varsE (xs.drop k) ++ varsW (D.drop (i + 1)) = varsW D) ∧ Below w.heap.size w wx) (fun _ kv _ => xn - (intOf kv).toNat)
        case atStart => exact ⟨0, m + 1, g3, cap3, acc ++ [vr], by omega, by omega, rfl, rfl, O3.out, HR2.out, B3.out⟩
        case round =>
          obtain ⟨k, m5, g5, c5, b, hkx, hbl, rfl, rfl, hO5, hr5, hb5⟩ := hrel
          have HB5 := Lib.hid hb5
          have hz5 := hb5.size
          obtain ⟨_, _, _, _, hrx⟩ := RdCS.get (H.out.below hb5) HX.out
          simp only at hrx
          by_cases hltk : k < xn
          · obtain ⟨ax, y, rfl, hay, hy, hy0, hy1⟩ := hrx.at_ hltk
            obtain ⟨t, v⟩ := y
            simp only at hy0 hy1
            have HS5 := Lib.hid (show b ++ varsE ((t, v) :: xs.drop (k + 1)) ++ varsW (D.drop (i + 1)) = varsW D by rw [← hr5.out, drop_at hy])
            clear hr5 hrx hy hb5
            obtain ⟨w6, hw6⟩ : ∃ w6, wr.alloc (.cells #[.int .i64 t, .int .i64 v] 49) = w6 := ⟨_, rfl⟩
            have B6 := Lib.hid (show Below w.heap.size w w6 by rw [← hw6]; exact HB5.out.alloc hz5 _)
            have O6 := Lib.hid (show Own w6 w.heap.size 2 1 (some ⟨g5, 0, none⟩) m5 c5 (b.map i64) by rw [← hw6]; exact hO5.out.alloc _)
            have x0 : w6.cell? ⟨wr.heap.size, 0, none⟩ = some (.int .i64 t) := by rw [← hw6]; exact new_cell _ _ _ 0
            have x1 : w6.cell? ⟨wr.heap.size, 1, none⟩ = some (.int .i64 v) := by rw [← hw6]; exact new_cell _ _ _ 1
            have hz6 := B6.out.size
            by_cases h1 : t = 1
            · subst h1
              have HG5 := Lib.hid (show (b ++ [v]) ++ varsE (xs.drop (k + 1)) ++ varsW (D.drop (i + 1)) = varsW D by rw [← HS5.out]; simp [varsE])
              go_wp2_with (at_builtin; refine wp_app1 (by rfl) _ _ 24 2 (.int .i64 0) 8 (by rfl) Try.underlying24 info_i64 rfl w.heap.size (some ⟨g5, 0, none⟩) m5 c5 (b.map i64) (by rfl) (by exact O6.out.alloc _) w6.heap.size (i64 v) (by rfl) (by exact new_cell _ _ _ 0) rfl (by omega) (by omega) (by simp; omega) ?_; intro g' cap w7 own7 hb7 hk7 hg7 hz7)
              have O7 := Lib.hid own7; have B7 := Lib.hid ((B6.out.alloc hz6 _).trans hb7)
              clear own7 hb7 hk7 hg7 hz7 x0 x1
              go_wp2_with fail
              go_roundw
              case rel => exact ⟨k + 1, m5 + 1, g', cap, b ++ [v], by omega, by omega, by go_num, rfl, by unfold Hid; rw [List.map_append]; exact O7.out, HG5.out, B7.out⟩
              case measure => simp [intOf]; omega
            · have g1 : (t == 1) = false := by simpa using h1
              have HG5 := Lib.hid (show b ++ varsE (xs.drop (k + 1)) ++ varsW (D.drop (i + 1)) = varsW D by rw [← HS5.out]; simp [varsE, h1])
              go_wp2_with fail
              go_roundw
              case rel => exact ⟨k + 1, m5, g5, c5, b, by omega, by omega, by go_num, rfl, O6.out, HG5.out, B6.out⟩
              case measure => simp [intOf]; omega
          · have HG5 := Lib.hid (show b ++ varsW (D.drop (i + 1)) = varsW D by rw [← hr5.out, show xs.drop k = [] from List.drop_eq_nil_of_le (by rw [HXL.out]; omega)]; simp [varsE])
            clear hr5 hrx hb5
            go_wp2_with fail
            go_roundw
            case rel => exact ⟨i + 1, m5, g5, c5, b, by omega, by omega, by go_num, rfl, hO5.out, HG5.out, HB5.out⟩
            case measure => simp [intOf]; omega
      · have gk0 : (kd == 0) = false := by simpa using hk0
        have HR2 := Lib.hid (show acc ++ varsE xs ++ varsW (D.drop (i + 1)) = varsW D by rw [← HS1.out]; simp [hk0])
        go_wp2_with fail
        clear x0 x1 x3 hc0 hc1 hc2 hc3 hab
        go_loopw [3, 26] (fun ov kv wx => ∃ (k m5 g5 c5 : Nat) (b : List Int), k ≤ xn ∧ m5 ≤ 41 * i + 1 + k ∧ kv = .int .i64 k ∧ ov = .slice (some ⟨g5, 0, none⟩) m5 c5 ∧ Hid (Own wx w.heap.size 2 1 (some ⟨g5, 0, none⟩) m5 c5 (b.map i64)) ∧ Hid (b ++ varsE (xs.drop k) ++ varsW (D.drop (i + 1)) = varsW D) ∧ Below w.heap.size w wx) (fun _ kv _ => xn - (intOf kv).toNat)
        case atStart => exact ⟨0, m, g, cc, acc, by omega, by omega, rfl, rfl, O4.out, HR2.out, B4.out⟩
        case round =>
          obtain ⟨k, m5, g5, c5, b, hkx, hbl, rfl, rfl, hO5, hr5, hb5⟩ := hrel
          have HB5 := Lib.hid hb5
          have hz5 := hb5.size
          obtain ⟨_, _, _, _, hrx⟩ := RdCS.get (H.out.below hb5) HX.out
          simp only at hrx
          by_cases hltk : k < xn
          · obtain ⟨ax, y, rfl, hay, hy, hy0, hy1⟩ := hrx.at_ hltk
            obtain ⟨t, v⟩ := y
            simp only at hy0 hy1
            have HS5 := Lib.hid (show b ++ varsE ((t, v) :: xs.drop (k + 1)) ++ varsW (D.drop (i + 1)) = varsW D by rw [← hr5.out, drop_at hy])
            clear hr5 hrx hy hb5
            obtain ⟨w6, hw6⟩ : ∃ w6, wr.alloc (.cells #[.int .i64 t, .int .i64 v] 49) = w6 := ⟨_, rfl⟩
            have B6 := Lib.hid (show Below w.heap.size w w6 by rw [← hw6]; exact HB5.out.alloc hz5 _)
            have O6 := Lib.hid (show Own w6 w.heap.size 2 1 (some ⟨g5, 0, none⟩) m5 c5 (b.map i64) by rw [← hw6]; exact hO5.out.alloc _)
            have x0 : w6.cell? ⟨wr.heap.size, 0, none⟩ = some (.int .i64 t) := by rw [← hw6]; exact new_cell _ _ _ 0
            have x1 : w6.cell? ⟨wr.heap.size, 1, none⟩ = some (.int .i64 v) := by rw [← hw6]; exact new_cell _ _ _ 1
            have hz6 := B6.out.size
            by_cases h1 : t = 1
            · subst h1
              have HG5 := Lib.hid (show (b ++ [v]) ++ varsE (xs.drop (k + 1)) ++ varsW (D.drop (i + 1)) = varsW D by rw [← HS5.out]; simp [varsE])
              go_wp2_with (at_builtin; refine wp_app1 (by rfl) _ _ 24 2 (.int .i64 0) 8 (by rfl) Try.underlying24 info_i64 rfl w.heap.size (some ⟨g5, 0, none⟩) m5 c5 (b.map i64) (by rfl) (by exact O6.out.alloc _) w6.heap.size (i64 v) (by rfl) (by exact new_cell _ _ _ 0) rfl (by omega) (by omega) (by simp; omega) ?_; intro g' cap w7 own7 hb7 hk7 hg7 hz7)
              have O7 := Lib.hid own7; have B7 := Lib.hid ((B6.out.alloc hz6 _).trans hb7)
              clear own7 hb7 hk7 hg7 hz7 x0 x1
              go_wp2_with fail
              go_roundw
              case rel => exact ⟨k + 1, m5 + 1, g', cap, b ++ [v], by omega, by omega, by go_num, rfl, by unfold Hid; rw [List.map_append]; exact O7.out, HG5.out, B7.out⟩
              case measure => simp [intOf]; omega
            · have g1 : (t == 1) = false := by simpa using h1
              have HG5 := Lib.hid (show b ++ varsE (xs.drop (k + 1)) ++ varsW (D.drop (i + 1)) = varsW D by rw [← HS5.out]; simp [varsE, h1])
              go_wp2_with fail
              go_roundw
              case rel => exact ⟨k + 1, m5, g5, c5, b, by omega, by omega, by go_num, rfl, O6.out, HG5.out, B6.out⟩
              case measure => simp [intOf]; omega
          · have HG5 := Lib.hid (show b ++ varsW (D.drop (i + 1)) = varsW D by rw [← hr5.out, show xs.drop k = [] from List.drop_eq_nil_of_le (by rw [HXL.out]; omega)]; simp [varsE])
            clear hr5 hrx hb5
            go_wp2_with fail
            go_roundw
            case rel => exact ⟨i + 1, m5, g5, c5, b, by omega, by omega, by go_num, rfl, hO5.out, HG5.out, HB5.out⟩
            case measure => simp [intOf]; omega
    · have HE := Lib.hid (show acc = varsW D by rw [← hr.out, List.drop_eq_nil_of_le (by rw [HDL.out]; omega)]; simp [varsW])
      have hcap := hO.out.cap
      have W0 := Lib.hid (show Wr wr w.heap.size wr.heap.size (some ⟨g, 0, none⟩) m ((varsW D).map i64) by rw [← HE.out]; exact hO.out.wr)
      have hml2 : (varsW D).length = m := W0.out.rdI.len
      have HB := Lib.hid hb
      clear hr hb
      go_wp2_with fail
      refine (sortI_c g m cc _ _ _ wr W0.out (by omega)).mono ?_
      rintro e w1 ⟨rfl, hw1, hb1⟩
      have W1 := Lib.hid hw1; have B1 := Lib.hid (HB.out.trans hb1)
      have hz1 := hb1.size
      clear hw1 hb1
      go_wp2_with fail
      refine (compactI_c g m cc _ _ _ w1 W1.out (by omega) hcap).mono ?_
      rw [show Lib.compact (sortL (varsW D)) = S from HS.out]
      rintro e w2 ⟨rfl, hw2, hb2⟩
      have W2 := Lib.hid (hw2.wider (Nat.le_refl _) (Nat.le_trans hz1 hb2.size)); have B2 := Lib.hid (B1.out.trans hb2)
      clear hw2 hb2
      have hSl : S.length ≤ m := by have := normV_len (varsW D); rw [HS.out, hml2] at this; exact this
      go_wp2_with fail
      go_ret
      exact ⟨_, _, cc, rfl, W2.out, by omega, B2.out⟩
theorem iWhileVariables_c (A : Option Addr) (n c : Nat) (ps : List Ct) {D : List Cmd} (w : World) (h : RdS w (sgCS A n ps)) (hn : n ≤ 1000000000) (hnc : n ≤ c) (hi : ∀ t ∈ ps, t.n ≤ 1000000000) (hw0 : ps.map datC = D) :
    Calls Try.prog 10 #[.slice A n c] w (IntsOut2 (wvR D) w) := by
  obtain ⟨q, hq⟩ : ∃ q, validW D = q := ⟨_, rfl⟩
  obtain ⟨R, hR⟩ : ∃ R, wvR D = R := ⟨_, rfl⟩
  rw [hR]
  have HQ := Lib.hid (show validW (ps.map datC) = q by rw [hw0]; exact hq)
  have HR := Lib.hid (show (if q = true then (normV (varsW D), 0) else ([], 1)) = R by rw [← hR, wvR, hq])
  have HV := Lib.hid (show validW D = q from hq)
  have HD := Lib.hid hw0
  have H := Lib.hid h; have HI := Lib.hid hi; clear h hi hw0 hq hR
  go_enter Try.func10, Try.ntmps10
  go_wp2_with fail
  refine (validWhile_c A n c ps q w H.out hnc hn HI.out HQ.out).mono ?_
  rintro e w1 ⟨rfl, hb1⟩
  have B1 := Lib.hid hb1
  have R1 := Lib.hid (H.out.below hb1)
  clear hb1
  cases q
  · have HG := Lib.hid (show (([], 1) : List Int × Int) = R from HR.out)
    go_wp2_with fail
    go_ret2
    rw [← HG.out]
    exact ⟨none, 0, 0, rfl, Wr.nil, by omega, B1.out⟩
  · obtain ⟨S, hS⟩ : ∃ S, normV (varsW D) = S := ⟨_, rfl⟩
    have HS := Lib.hid hS
    have HG := Lib.hid (show (S, (0 : Int)) = R by rw [← HR.out, ← hS]; rfl)
    clear hS HR
    go_wp2_with fail
    refine (whileVariables_c A n c ps D S w1 R1.out HD.out HV.out HS.out).mono ?_
    rintro e w2 ⟨A2, m2, c2, rfl, hw2, hm2, hb2⟩
    have W2 := Lib.hid (hw2.wider B1.out.size (Nat.le_refl _)); have B2 := Lib.hid (below_chain B1.out B1.out.size hb2)
    clear hw2 hb2
    go_wp2_with fail
    go_ret2
    rw [← HG.out]
    exact ⟨A2, m2, c2, rfl, W2.out, hm2, B2.out⟩
end Go.Proofs.Ytecpbgmcednpoaa
