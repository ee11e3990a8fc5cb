/-
  Parts of the proof, one behind the other: contracts of the functions that the law reaches, and plain laws.
-/
import Derived.Test.YtebjpmmgdkepjaaGreatDoorLot04
import Derived.Test.YtebjpmmgdkepjaaGreatDoorLot11
import Derived.Test.YtebjpmmgdkepjaaGreatDoorLot21
import Derived.Test.YtebjpmmgdkepjaaGreatDoorLot24
import Derived.Test.YtebjpmmgdkepjaaGreatDoorLot29
/-
  Functions as terms: the program's evaluation of a function by its lambda term.
-/
namespace Go.Proofs.YtebjpmmgdkepjaaGreatDoor
open Go.RowKit
open FTr

/-- a term and a code -/
def ApOut (o : Option LT) (w : World) (e : Ending) (w' : World) : Prop := (match o with
  | some T => ∃ A c, e = .returned (.tuple #[.slice A T.length c, .int .i64 0]) ∧ Rd2 w' A T.length T
  | none => e = .returned (.tuple #[.slice none 0 0, .int .i64 5])) ∧ Below w.heap.size w w'
set_option maxHeartbeats 2000000 in
theorem numerals_c (G : Option Addr) (m mc : Nat) (ys : List Int) (w : World) (h : RdI w G m ys) (ha : allB 0 150 ys = true) (hm : m ≤ 1000) :
    Calls Tryz.prog 87 #[.slice G m mc] w (LsOut (numsL ys) m w) := by
  have HL := Lib.hid h.len
  have H := Lib.hid h; have HA := Lib.hid ha
  clear h ha
  go_enter Tryz.func87, Tryz.ntmps87
  go_wp2_with fail
  go_loopw [3, 9] (fun ov iv wr => ∃ (k oc : Nat) (O : Option Addr) (ps : List Tm), k ≤ m ∧ iv = .int .i64 k ∧ ov = .slice O k oc ∧ Hid (LmS wr w.heap.size 25 O k oc ps) ∧ Hid (ps.map Tm.t = (numsL ys).take k) ∧ Below w.heap.size w wr) (fun _ iv _ => m - (intOf iv).toNat)
  case atStart => exact ⟨0, 0, _, [], by omega, rfl, rfl, LmS.nil (Own.lit (Nat.le_refl _)), rfl, below_size.alloc (Nat.le_refl _) _⟩
  case round =>
    obtain ⟨k, oc, O, ps, hk, rfl, rfl, hO, hp, hb⟩ := hrel
    have HB := Lib.hid hb
    have hwz := hb.size
    by_cases hlt : k < m
    · obtain ⟨pd, y, rfl, _, hy, hcy⟩ := (RdI.below H.out hb).at_ hlt
      have hyb := allB_mem HA.out y (List.mem_of_getElem? hy)
      obtain ⟨v, rfl⟩ : ∃ v : Nat, y = (v : Int) := ⟨y.toNat, by omega⟩
      have HX := Lib.hid (show (numsL ys).take (k + 1) = (numsL ys).take k ++ [numLm v] by
        refine take_at ?_
        rw [numsL, List.getElem?_map, hy]; rfl)
      have HC := Lib.hid (fun w => numeralLam_c v w (by omega))
      obtain ⟨n2, hn2⟩ : ∃ n2, 2 * v + 3 = n2 := ⟨_, rfl⟩
      rw [hn2] at HC
      have hn2b : n2 ≤ 303 := by omega
      clear hy hb hn2 hyb
      go_wp2_with fail
      refine (HC.out _).mono ?_
      rintro e w4 ⟨A4, c4, rfl, hl4, hw4, hc4, hb4⟩
      have D4 := Lib.hid hb4; have W4 := Lib.hid hw4; have z4 := hb4.size; have E4 := Lib.hid (HB.out.trans (hb4.mono hwz)); have HL4 := Lib.hid hl4
      clear hl4 hw4 hc4 hb4
      go_wp2_with (at_builtin; refine wp_app1 (by rfl) _ _ 32 25 (.slice none 0 0) 24 (by rfl) Tryz.underlying32 info_sLam rfl w.heap.size O k oc (ps.map Tm.hd) (by rfl) (by exact (hO.out.own.keep D4.out).alloc _) w4.heap.size (.slice A4 n2 c4) (by rfl) (by exact new_cell _ _ _ 0) rfl (by omega) (by omega) (by simp; omega) ?_; intro g' cap w5 own5 hb5 hk5 hg5 hz5; have L5 := Lib.hid (LmS.push hO.out hwz (w1 := w4.alloc (.cells #[.slice A4 n2 c4] 25)) (p := ⟨A4, c4, numLm v⟩) (D4.out.alloc z4 _) (by show Wr _ _ _ A4 ((numLm v).length * 2) _; rw [HL4.out]; exact (W4.out.below (below_size.alloc (Nat.le_refl _) _)).wider (Nat.le_refl _) (by simp)) (by rw [List.map_append]; show Own _ _ _ _ _ _ _ (_ ++ [.slice A4 (numLm v).length c4]); rw [HL4.out]; exact own5) hk5 hg5 hz5); have E5 := Lib.hid ((E4.out.alloc (by omega) _).trans hb5); clear own5 hb5 hk5 hg5 hz5)
      go_roundw
      case rel => exact ⟨k + 1, cap, some ⟨g', 0, none⟩, ps ++ [(⟨A4, c4, numLm v⟩ : Tm)], by omega, by go_num, rfl, L5.out, by unfold Hid; rw [List.map_append, hp.out, HX.out]; rfl, E5.out⟩
      case measure => simp [intOf]; omega
    · obtain rfl : k = m := by omega
      go_wp2_with fail
      go_ret
      exact ⟨O, oc, ps, rfl, hO.out, by rw [hp.out, List.take_of_length_le (by rw [numsL_len, HL.out]; exact Nat.le_refl _)], HB.out⟩
set_option maxHeartbeats 2000000 in
set_option maxRecDepth 100000 in
theorem appliedFunc_c (t : FTr) (ad : Addr) (n cp : Nat) (G : Option Addr) (m mc : Nat) (ys : List Int) (o : Option LT) (w : World) (ho : okT t = true) (hl : (flat t).length ≤ 60) (h : Rd3 w (some ad) n (flat t)) (hnc : n ≤ cp) (hG : RdI w G m ys) (ha : allB 0 150 ys = true) (hm : m ≤ 4) (hL : LibS w) (hoo : apO t ys = o) :
    Calls Tryz.prog 49 #[.slice (some ad) n cp, .slice G m mc] w (ApOut o w) := by
  have HC := Lib.hid (funcToLam_c t ho hl ad n cp w h hnc hL)
  have HG := Lib.hid hG; have HA := Lib.hid ha; have HOO := Lib.hid hoo; have HL := Lib.hid hG.len
  clear ho hl h hG ha hoo hL
  go_enter Tryz.func49, Tryz.ntmps49
  go_wp2_with fail
  refine HC.out.mono ?_
  rintro e w1 ⟨T, A1, c1, rfl, hw1, hc1, hb1, h3k, hT⟩
  have R1 := Lib.hid (show Rd2 w1 A1 T.length T from hw1.rd); have B1 := Lib.hid hb1; have hz1 := hb1.size
  clear hw1 hc1 hb1 HC
  cases htr : trmO t with
  | none =>
    rw [htr] at hT
    have HQ := Lib.hid (show validL T = false by
      cases hv : validL T with
      | false => rfl
      | true => have := (validL_end hv).2.2; have h9 : 400 < T.length := hT; omega)
    have HG0 := Lib.hid (show none = o by rw [← HOO.out, apO_no htr])
    clear hT htr
    go_wp2_with fail
    refine (checkedLam_c A1 T.length c1 T false w1 R1.out (by omega) HQ.out).mono ?_
    rintro e w2 ⟨rfl, hb2⟩
    have B2 := Lib.hid (B1.out.trans (hb2.mono hz1))
    clear hb2
    simp only [Bool.false_eq_true, if_false]
    go_wp2_with fail
    go_ret2
    rw [← HG0.out]
    exact ⟨rfl, B2.out⟩
  | some u =>
    rw [htr] at hT
    obtain ⟨hTu, hT4⟩ : T = u ∧ T.length ≤ 400 := hT
    have HQ := Lib.hid (show validL T = true by rw [hTu]; exact trmO_valid htr)
    obtain ⟨V, hV⟩ : ∃ V, appLm T (numsL ys) = V := ⟨_, rfl⟩
    obtain ⟨q, hq⟩ : ∃ q, validL V = q := ⟨_, rfl⟩
    have HG0 := Lib.hid (show (if q = true then some V else none) = o by rw [← HOO.out, apO_yes htr, ← hTu, hV, hq])
    have hVb : V.length ≤ 3000 := by
      have h1 := numsL_flat HA.out
      have h2 : ys.length * 303 ≤ 4 * 303 := Nat.mul_le_mul_right _ (by rw [HL.out]; exact hm)
      rw [← hV, appLm_len, numsL_len, HL.out]; omega
    have HV := Lib.hid hV; have HVQ := Lib.hid hq
    clear hV hq htr hTu
    go_wp2_with fail
    refine (checkedLam_c A1 T.length c1 T true w1 R1.out (by omega) HQ.out).mono ?_
    rintro e w2 ⟨rfl, hb2⟩
    have B2 := Lib.hid (B1.out.trans (hb2.mono hz1)); have R2 := Lib.hid (R1.out.below hb2); have hz2 := B2.out.size
    clear hb2
    simp only [if_true]
    go_wp2_with fail
    refine (numerals_c G m mc ys _ (RdI.below HG.out B2.out) HA.out (by omega)).mono ?_
    rintro e w3 ⟨X, xc, ps, rfl, hl3, hm3, hb3⟩
    have B3 := Lib.hid (B2.out.trans (hb3.mono hz2)); have R3 := Lib.hid (R2.out.below hb3); have V3 := Lib.hid hl3.rdV; have M3 := Lib.hid hm3; have hz3 := B3.out.size
    clear hl3 hm3 hb3
    go_wp2_with fail
    refine (applyLamT_c A1 T.length c1 T X m xc V.length ps V _ R3.out V3.out (by omega) (by rw [M3.out]; exact HV.out) rfl (by omega)).mono ?_
    rintro e w4 ⟨A4, c4, rfl, hl4, hw4, hc4, hb4⟩
    have B4 := Lib.hid (B3.out.trans (hb4.mono hz3)); have R4 := Lib.hid (show Rd2 w4 A4 V.length V from hw4.rd); have hz4 := B4.out.size
    clear hl4 hw4 hc4 hb4
    cases q
    · go_wp2_with fail
      refine (checkedLam_c A4 V.length c4 V false _ R4.out (by omega) HVQ.out).mono ?_
      rintro e w5 ⟨rfl, hb5⟩
      have B5 := Lib.hid (B4.out.trans (hb5.mono hz4))
      clear hb5
      simp only [Bool.false_eq_true, if_false]
      go_wp2_with fail
      go_ret2
      rw [← HG0.out]
      exact ⟨rfl, B5.out⟩
    · go_wp2_with fail
      refine (checkedLam_c A4 V.length c4 V true _ R4.out (by omega) HVQ.out).mono ?_
      rintro e w5 ⟨rfl, hb5⟩
      have B5 := Lib.hid (B4.out.trans (hb5.mono hz4)); have R5 := Lib.hid (R4.out.below hb5)
      clear hb5
      simp only [if_true]
      go_wp2_with fail
      go_ret2
      rw [← HG0.out]
      exact ⟨⟨A4, c4, rfl, R5.out⟩, B5.out⟩
def acV (q : Bool) : Int := if q = true then 0 else 2
set_option maxHeartbeats 2000000 in
set_option maxRecDepth 100000 in
/-- the code of the arguments of a function that is valid -/
theorem argsCode_c (t : FTr) (ad : Addr) (n cp : Nat) (G : Option Addr) (m mc : Nat) (ys : List Int) (b : Int) (q : Bool) (w : World) (ho : okT t = true) (hl : (flat t).length ≤ 60) (h : Rd3 w (some ad) n (flat t)) (hG : RdI w G m ys) (hm : m ≤ 1000000000) (hq : (inB b 1 20000 && argsB (ar t) ys) = q) :
    Calls Tryz.prog 48 #[.slice (some ad) n cp, .slice G m mc, .int .i64 150, .int .i64 b] w fun e w' => e = .returned (.int .i64 (acV q)) ∧ Below w.heap.size w w' := by
  have hL := h.len
  have hpos := flat_pos t
  have HV := Lib.hid (validFunc_c (some ad) n cp (flat t) true w h (by omega) (validF_iff.2 ⟨hl, t, ho, rfl⟩))
  obtain ⟨ad', x', e, hab, hx, hc0, hc1, hc2⟩ := h.at_ (k := 0) (by omega)
  injection e with e; subst e
  rw [Nat.zero_mul, addrZf] at hc1
  have har : ar t = x'.2.1 := by
    obtain ⟨x, ts⟩ := t
    rw [flat_mk, List.getElem?_cons_zero] at hx
    injection hx with hx; subst hx; rfl
  obtain ⟨a, ha⟩ : ∃ a, x'.2.1 = a := ⟨_, rfl⟩
  rw [ha] at hc1 har
  have HQ := Lib.hid (show (inB b 1 20000 && (decide ((m : Int) = a) && allB 0 150 ys)) = q by rw [← hq, argsB, har, hG.len])
  have hn0 : 0 < n := by rw [← hL]; exact hpos
  have C1 := Lib.hid hc1; have HG := Lib.hid hG
  clear ho hl h hG hq hc0 hc1 hc2 hx hab ha har hL hpos
  obtain ⟨qb, hqb⟩ : ∃ q, inB b 1 20000 = q := ⟨_, rfl⟩
  obtain ⟨qa, hqa⟩ : ∃ q, allB 0 150 ys = q := ⟨_, rfl⟩
  obtain ⟨qm, hqm⟩ : ∃ q, decide ((m : Int) = a) = q := ⟨_, rfl⟩
  have HQ2 := Lib.hid (show (qb && (qm && qa)) = q by rw [← HQ.out, hqb, hqa, hqm])
  have HB := Lib.hid hqb; have HA := Lib.hid hqa
  have g1 : ((m : Int) != a) = !qm := by rw [← hqm]; by_cases h9 : (m : Int) = a <;> simp [h9]
  clear hqb hqa hqm HQ
  go_enter Tryz.func48, Tryz.ntmps48
  go_wp2_with fail
  refine HV.out.mono ?_
  rintro e w1 ⟨rfl, hb1⟩
  have B1 := Lib.hid hb1
  have x0 : w1.cell? ⟨ad.block, ad.off + 1, none⟩ = some (i64 a) := keepc hb1 C1.out
  have HG1 := Lib.hid (RdI.below HG.out hb1)
  clear hb1
  cases qb <;> cases qm <;> cases qa
  all_goals simp only [Bool.not_true, Bool.not_false] at g1
  all_goals go_wp2_with fail
  all_goals go_quiet (first | (go_at_call 38; first | exact quiet_left (budgetOkL_b b _ HB.out _) | exact quiet_add_left (budgetOkL_b b _ HB.out _)) | (go_at_call 84; first | exact quiet_left (sizeI_c _ _ _ _ (by omega)) | exact quiet_add_left (sizeI_c _ _ _ _ (by omega))) | (go_at_call 85; first | exact quiet_left (allWithin_b _ _ _ ys _ _ _ HA.out _ (by exact HG1.out.drewN _) (by omega)) | exact quiet_add_left (allWithin_b _ _ _ ys _ _ _ HA.out _ (by exact HG1.out.drewN _) (by omega))))
  all_goals go_wp2_with fail
  all_goals go_ret
  all_goals exact ⟨by rw [← HQ2.out]; rfl, below_drewN B1.out _⟩
set_option maxHeartbeats 4000000 in
set_option maxRecDepth 100000 in
theorem iEvalByLam_c (A : Option Addr) (n c : Nat) (xs : List Nd3) (A' : Option Addr) (n' c' : Nat) (ys : List Int) (b : Int) (w : World) (h : Rd3 w A n xs) (h' : RdI w A' n' ys) (hn : n ≤ 1000000000) (hn' : n' ≤ 1000000000) (hnc : n ≤ c) (ht : LibS w) :
    Calls Tryz.prog 19 #[.slice A n c, .slice A' n' c', .int .i64 b] w fun e w' => e = .returned (.tuple #[.int .i64 (evF xs ys b).1, .int .i64 (evF xs ys b).2.1, .int .i64 (evF xs ys b).2.2]) ∧ Below w.heap.size w w' := by
  obtain ⟨R, hR⟩ : ∃ R, evF xs ys b = R := ⟨_, rfl⟩
  rw [hR]
  cases hv : validF xs with
  | false =>
    have HR := Lib.hid (show ((0, 0, 1) : Int × Int × Int) = R by rw [← hR, evF_bad hv])
    have HC := Lib.hid (show Calls Tryz.prog 48 #[.slice A n c, .slice A' n' c', .int .i64 150, .int .i64 b] w fun e w' => e = .returned (.int .i64 1) ∧ Below w.heap.size w w' from by
      have HV := Lib.hid (validFunc_c A n c xs false w h hn hv)
      clear h h' hR hv ht HR
      go_enter Tryz.func48, Tryz.ntmps48
      go_wp2_with fail
      refine HV.out.mono ?_
      rintro e w1 ⟨rfl, hb1⟩
      have B1 := Lib.hid hb1
      clear hb1
      go_wp2_with fail
      go_ret
      exact ⟨rfl, B1.out⟩)
    clear h h' hR hv ht
    go_enter Tryz.func19, Tryz.ntmps19
    go_wp2_with fail
    refine HC.out.mono ?_
    rintro e w1 ⟨rfl, hb1⟩
    have B1 := Lib.hid hb1
    clear hb1
    go_wp2_with fail
    go_ret3
    rw [← HR.out]
    exact ⟨rfl, B1.out⟩
  | true =>
    obtain ⟨h60, t, hok, rfl⟩ := validF_iff.1 hv
    have hp := flat_pos t
    obtain ⟨ad, rfl, _⟩ := h.2 (by rw [h.len] at hp; omega)
    obtain ⟨q, hq⟩ : ∃ q, (inB b 1 20000 && argsB (ar t) ys) = q := ⟨_, rfl⟩
    have HAC := Lib.hid (argsCode_c t ad n c A' n' c' ys b q w hok h60 h h' hn' hq)
    rw [evF_flat hok h60] at hR
    cases q with
    | false =>
      have HR := Lib.hid (show ((0, 0, 2) : Int × Int × Int) = R by rw [← hR, evT_bad hq])
      have HAC2 := Lib.hid (show Calls Tryz.prog 48 #[.slice (some ad) n c, .slice A' n' c', .int .i64 150, .int .i64 b] w fun e w' => e = .returned (.int .i64 2) ∧ Below w.heap.size w w' from HAC.out)
      clear h h' hR hv ht hok h60 hp hq HAC
      go_enter Tryz.func19, Tryz.ntmps19
      go_wp2_with fail
      refine HAC2.out.mono ?_
      rintro e w1 ⟨rfl, hb1⟩
      have B1 := Lib.hid hb1
      clear hb1
      go_wp2_with fail
      go_ret3
      rw [← HR.out]
      exact ⟨rfl, B1.out⟩
    | true =>
      have hq1 : inB b 1 20000 = true := (Bool.and_eq_true_iff.1 hq).1
      have hq2 : argsB (ar t) ys = true := (Bool.and_eq_true_iff.1 hq).2
      have hall : allB 0 150 ys = true := by rw [argsB, Bool.and_eq_true] at hq2; exact hq2.2
      have har : (ys.length : Int) = ar t := by rw [argsB, Bool.and_eq_true, decide_eq_true_eq] at hq2; exact hq2.1
      have hn4 : n' ≤ 4 := by
        obtain ⟨x, ts⟩ := t
        have h9 := (nodeF_ar (okT_iff.1 hok).node).2.1
        have h8 : ar (mk x ts) = x.2.1 := rfl
        rw [h8, h'.len] at har; omega
      have hb0 := inB_t hq1
      obtain ⟨o, hoo⟩ : ∃ o, apO t ys = o := ⟨_, rfl⟩
      have HAC2 := Lib.hid (show Calls Tryz.prog 48 #[.slice (some ad) n c, .slice A' n' c', .int .i64 150, .int .i64 b] w fun e w' => e = .returned (.int .i64 0) ∧ Below w.heap.size w w' from HAC.out)
      have HAP := Lib.hid (fun (w' : World) (hb : Below w.heap.size w w') => appliedFunc_c t ad n c A' n' c' ys o w' hok h60 (Rd3.below h hb) hnc (RdI.below h' hb) hall hn4 (ht.below hb) hoo)
      have HOO := Lib.hid hoo; have HQ := Lib.hid hq; have HR0 := Lib.hid hR; have HQ1 := Lib.hid hq1
      clear h h' hR hv ht hok h60 hp hq HAC hq1 hq2 hall har hn4 hoo
      go_enter Tryz.func19, Tryz.ntmps19
      go_wp2_with fail
      refine HAC2.out.mono ?_
      rintro e w1 ⟨rfl, hb1⟩
      have B1 := Lib.hid hb1; have hz1 := hb1.size
      clear hb1
      go_wp2_with fail
      refine (HAP.out _ B1.out).mono ?_
      cases o with
      | none =>
        have HR := Lib.hid (show ((0, 0, 5) : Int × Int × Int) = R by rw [← HR0.out, evT_no HQ.out HOO.out])
        rintro e w2 ⟨rfl, hb2⟩
        have B2 := Lib.hid (B1.out.trans (hb2.mono hz1))
        clear hb2
        go_wp2_with fail
        go_ret3
        rw [← HR.out]
        exact ⟨rfl, B2.out⟩
      | some u =>
        rintro e w2 ⟨⟨A2, c2, rfl, hr2⟩, hb2⟩
        have B2 := Lib.hid (B1.out.trans (hb2.mono hz1)); have R2 := Lib.hid hr2; have hz2 := B2.out.size
        have hV := apO_valid HOO.out
        have hul : u.length ≤ 400 := (validL_end hV).2.2
        obtain ⟨X, hX⟩ : ∃ X, runL b.toNat u 0 = X := ⟨_, rfl⟩
        have HR := Lib.hid (show lamA X = R by rw [← HR0.out, evT_yes HQ.out HOO.out, hX])
        have HRC := Lib.hid (show rcL u b = rcX X by rw [rcL, hV, HQ1.out, hX]; rfl)
        have HVX := Lib.hid (show ∀ v k q, X = some (v, k, q) → validL v = true ∧ k ≤ 20000 from fun v k q e => by
          have h9 := runL_valid hV (by rw [hX, e])
          exact ⟨h9.1, by omega⟩)
        clear hr2 hb2 hX
        go_wp2_with fail
        refine (iNormalizeLam_c A2 u.length c2 u b w2 R2.out (by omega)).mono ?_
        rw [HRC.out]
        cases X with
        | none =>
          rintro e w3 ⟨A3, n3, c3, rfl, _, _, hb3⟩
          have B3 := Lib.hid (B2.out.trans (hb3.mono hz2))
          clear hb3
          simp only [rcX]
          go_wp2_with fail
          go_ret3
          rw [← HR.out]
          exact ⟨rfl, B3.out⟩
        | some vkq =>
          obtain ⟨v, k, q⟩ := vkq
          obtain ⟨hvv, hk⟩ := HVX.out v k q rfl
          rintro e w3 ⟨A3, n3, c3, rfl, hw3, _, hb3⟩
          have B3 := Lib.hid (B2.out.trans (hb3.mono hz2)); have R3 := Lib.hid (show Rd2 w3 A3 n3 v from hw3.rd); have hz3 := B3.out.size
          have HVV := Lib.hid hvv
          clear hb3 hw3 hvv
          simp only [rcX]
          cases q with
          | false =>
            go_wp2_with fail
            go_ret3
            rw [← HR.out]
            exact ⟨rfl, B3.out⟩
          | true =>
            obtain ⟨z, hz⟩ : ∃ z, nvL v = z := ⟨_, rfl⟩
            have HNV := Lib.hid (NumeralValue_c A3 n3 c3 v w3 R3.out HVV.out)
            rw [hz] at HNV
            have HR2 := Lib.hid (show (if z < 0 then ((0, 0, 3) : Int × Int × Int) else (z, (k : Int), 0)) = R by rw [← HR.out, lamA, if_pos rfl, hz])
            clear hz
            by_cases hz0 : z < 0
            · have HNV2 := Lib.hid (show Calls Tryz.prog 12 #[.slice A3 n3 c3] w3 fun e w' => e = .returned (.tuple #[.int .i64 0, .int .i64 3]) ∧ Below w3.heap.size w3 w' by have h9 := HNV.out; rw [if_pos hz0, if_pos hz0] at h9; exact h9)
              have HR3 := Lib.hid (show ((0, 0, 3) : Int × Int × Int) = R by rw [← HR2.out, if_pos hz0])
              clear HNV
              go_wp2_with fail
              refine HNV2.out.mono ?_
              rintro e w4 ⟨rfl, hb4⟩
              have B4 := Lib.hid (B3.out.trans (hb4.mono hz3))
              clear hb4
              go_wp2_with fail
              go_ret3
              rw [← HR3.out]
              exact ⟨rfl, B4.out⟩
            · have HNV2 := Lib.hid (show Calls Tryz.prog 12 #[.slice A3 n3 c3] w3 fun e w' => e = .returned (.tuple #[.int .i64 z, .int .i64 0]) ∧ Below w3.heap.size w3 w' by have h9 := HNV.out; rw [if_neg hz0, if_neg hz0] at h9; exact h9)
              have HR3 := Lib.hid (show ((z, (k : Int), 0) : Int × Int × Int) = R by rw [← HR2.out, if_neg hz0])
              clear HNV
              go_wp2_with fail
              refine HNV2.out.mono ?_
              rintro e w4 ⟨rfl, hb4⟩
              have B4 := Lib.hid (B3.out.trans (hb4.mono hz3))
              clear hb4
              go_wp2_with fail
              go_ret3
              rw [← HR3.out]
              exact ⟨rfl, B4.out⟩
end Go.Proofs.YtebjpmmgdkepjaaGreatDoor
/-
  Functions as combinator terms: the program's evaluation.
-/
namespace Go.Proofs.YtebjpmmgdkepjaaGreatDoor
open Go.RowKit
open FTr

/-- a combinator term and a code -/
def LcOut : Option LT → World → Ending → World → Prop
  | some c, w, e, w' => (∃ A' cap, e = .returned (.tuple #[.slice A' c.length cap, .int .i64 0]) ∧ Rd2 w' A' c.length c) ∧ Below w.heap.size w w'
  | none, w, e, w' => e = .returned (.tuple #[.slice none 0 0, .int .i64 5]) ∧ Below w.heap.size w w'
set_option maxHeartbeats 1000000 in
theorem LamToComb_c (A : Option Addr) (n cp : Nat) (u : LT) (o : Option LT) (w : World) (h : Rd2 w A n u) (hv : validL u = true) (hx : LcX 0 u o) :
    Calls Tryz.prog 13 #[.slice A n cp, .bool true] w (LcOut o w) := by
  have hl := h.len
  have hn4 : n ≤ 400 := by rw [← hl]; exact (validL_end hv).2.2
  have HV := Lib.hid (validLam_c A n cp u true w h (by omega) hv)
  have HC := Lib.hid (show ∀ (ki di : Int) (w' : World), ki = 0 → di = 0 → Below w.heap.size w w' → Calls Tryz.prog 36 #[.slice A n cp, .int .i64 ki, .int .i64 di, .bool true] w' (LtOut o (0 + u.length) u.length w') from fun ki di w' e1 e2 hb => by
    subst e1 e2
    exact lamToComb_c A n cp u hn4 hx 0 [] w' (h.below hb) (by simp) (by omega))
  clear h hv hx
  go_enter Tryz.func13, Tryz.ntmps13
  go_wp2_with fail
  refine HV.out.mono ?_
  rintro e w1 ⟨rfl, hb1⟩
  have B1 := Lib.hid hb1; have hz1 := hb1.size
  clear hb1
  go_wp2_with fail
  refine (HC.out _ _ _ rfl rfl B1.out).mono ?_
  cases o with
  | none =>
    rintro e w2 ⟨⟨A2, c', c2, z', rfl, _, _⟩, hb2⟩
    have B2 := Lib.hid (B1.out.trans (hb2.mono hz1))
    clear hb2
    go_wp2_with fail
    go_ret2
    exact ⟨rfl, B2.out⟩
  | some c =>
    rintro e w2 ⟨⟨A2, c2, rfl, hr2, _⟩, hb2⟩
    have B2 := Lib.hid (B1.out.trans (hb2.mono hz1)); have R2 := Lib.hid hr2
    clear hr2 hb2
    go_wp2_with fail
    go_ret2
    exact ⟨⟨A2, c2, rfl, R2.out⟩, B2.out⟩
set_option maxHeartbeats 4000000 in
set_option maxRecDepth 100000 in
theorem iEvalByComb_c (A : Option Addr) (n c : Nat) (xs : List Nd3) (A' : Option Addr) (n' c' : Nat) (ys : List Int) (b : Int) (w : World) (h : Rd3 w A n xs) (h' : RdI w A' n' ys) (hn : n ≤ 1000000000) (hn' : n' ≤ 1000000000) (hnc : n ≤ c) (ht : LibS w) :
    Calls Tryz.prog 23 #[.slice A n c, .slice A' n' c', .int .i64 b] w fun e w' => e = .returned (.tuple #[.int .i64 (ecF xs ys b).1, .int .i64 (ecF xs ys b).2.1, .int .i64 (ecF xs ys b).2.2]) ∧ Below w.heap.size w w' := by
  obtain ⟨R, hR⟩ : ∃ R, ecF xs ys b = R := ⟨_, rfl⟩
  rw [hR]
  cases hv : validF xs with
  | false =>
    have HR := Lib.hid (show ((0, 0, 1) : Int × Int × Int) = R by rw [← hR, ecF_bad hv])
    have HC := Lib.hid (show Calls Tryz.prog 48 #[.slice A n c, .slice A' n' c', .int .i64 150, .int .i64 b] w fun e w' => e = .returned (.int .i64 1) ∧ Below w.heap.size w w' from by
      have HV := Lib.hid (validFunc_c A n c xs false w h hn hv)
      clear h h' hR hv ht HR
      go_enter Tryz.func48, Tryz.ntmps48
      go_wp2_with fail
      refine HV.out.mono ?_
      rintro e w1 ⟨rfl, hb1⟩
      have B1 := Lib.hid hb1
      clear hb1
      go_wp2_with fail
      go_ret
      exact ⟨rfl, B1.out⟩)
    clear h h' hR hv ht
    go_enter Tryz.func23, Tryz.ntmps23
    go_wp2_with fail
    refine HC.out.mono ?_
    rintro e w1 ⟨rfl, hb1⟩
    have B1 := Lib.hid hb1
    clear hb1
    go_wp2_with fail
    go_ret3
    rw [← HR.out]
    exact ⟨rfl, B1.out⟩
  | true =>
    obtain ⟨h60, t, hok, rfl⟩ := validF_iff.1 hv
    have hp := flat_pos t
    obtain ⟨ad, rfl, _⟩ := h.2 (by rw [h.len] at hp; omega)
    obtain ⟨q, hq⟩ : ∃ q, (inB b 1 20000 && argsB (ar t) ys) = q := ⟨_, rfl⟩
    have HAC := Lib.hid (argsCode_c t ad n c A' n' c' ys b q w hok h60 h h' hn' hq)
    rw [ecF_flat hok h60] at hR
    cases q with
    | false =>
      have HR := Lib.hid (show ((0, 0, 2) : Int × Int × Int) = R by rw [← hR, ecT_bad hq])
      have HAC2 := Lib.hid (show Calls Tryz.prog 48 #[.slice (some ad) n c, .slice A' n' c', .int .i64 150, .int .i64 b] w fun e w' => e = .returned (.int .i64 2) ∧ Below w.heap.size w w' from HAC.out)
      clear h h' hR hv ht hok h60 hp hq HAC
      go_enter Tryz.func23, Tryz.ntmps23
      go_wp2_with fail
      refine HAC2.out.mono ?_
      rintro e w1 ⟨rfl, hb1⟩
      have B1 := Lib.hid hb1
      clear hb1
      go_wp2_with fail
      go_ret3
      rw [← HR.out]
      exact ⟨rfl, B1.out⟩
    | true =>
      have hq1 : inB b 1 20000 = true := (Bool.and_eq_true_iff.1 hq).1
      have hq2 : argsB (ar t) ys = true := (Bool.and_eq_true_iff.1 hq).2
      have hall : allB 0 150 ys = true := by rw [argsB, Bool.and_eq_true] at hq2; exact hq2.2
      have har : (ys.length : Int) = ar t := by rw [argsB, Bool.and_eq_true, decide_eq_true_eq] at hq2; exact hq2.1
      have hn4 : n' ≤ 4 := by
        obtain ⟨x, ts⟩ := t
        have h9 := (nodeF_ar (okT_iff.1 hok).node).2.1
        have h8 : ar (mk x ts) = x.2.1 := rfl
        rw [h8, h'.len] at har; omega
      have hb0 := inB_t hq1
      obtain ⟨kb, rfl⟩ : ∃ kb : Nat, b = (kb : Int) := ⟨b.toNat, by omega⟩
      obtain ⟨o, hoo⟩ : ∃ o, apO t ys = o := ⟨_, rfl⟩
      have HAC2 := Lib.hid (show Calls Tryz.prog 48 #[.slice (some ad) n c, .slice A' n' c', .int .i64 150, .int .i64 (kb : Int)] w fun e w' => e = .returned (.int .i64 0) ∧ Below w.heap.size w w' from HAC.out)
      have HAP := Lib.hid (fun (w' : World) (hb : Below w.heap.size w w') => appliedFunc_c t ad n c A' n' c' ys o w' hok h60 (Rd3.below h hb) hnc (RdI.below h' hb) hall hn4 (ht.below hb) hoo)
      have HOO := Lib.hid hoo; have HQ := Lib.hid hq; have HR0 := Lib.hid hR; have HQ1 := Lib.hid hq1; have HOK := Lib.hid hok
      clear h h' hR hv ht hok h60 hp hq HAC hq1 hq2 hall har hn4 hoo
      go_enter Tryz.func23, Tryz.ntmps23
      go_wp2_with fail
      refine HAC2.out.mono ?_
      rintro e w1 ⟨rfl, hb1⟩
      have B1 := Lib.hid hb1; have hz1 := hb1.size
      clear hb1
      go_wp2_with fail
      refine (HAP.out _ B1.out).mono ?_
      cases o with
      | none =>
        have HR := Lib.hid (show ((0, 0, 5) : Int × Int × Int) = R by rw [← HR0.out, ecT_no HQ.out HOO.out])
        rintro e w2 ⟨rfl, hb2⟩
        have B2 := Lib.hid (B1.out.trans (hb2.mono hz1))
        clear hb2
        go_wp2_with fail
        go_ret3
        rw [← HR.out]
        exact ⟨rfl, B2.out⟩
      | some u =>
        rintro e w2 ⟨⟨A2, c2, rfl, hr2⟩, hb2⟩
        have B2 := Lib.hid (B1.out.trans (hb2.mono hz1)); have R2 := Lib.hid hr2; have hz2 := B2.out.size
        have hV := apO_valid HOO.out
        obtain ⟨ox, hox⟩ := (apO_clo HOK.out HOO.out).lcX
        have HLT := Lib.hid (LamToComb_c A2 u.length c2 u ox w2 R2.out hV hox)
        have HR1 := Lib.hid (show ecA ox kb = R by
          rw [← HR0.out, ecT_yes HQ.out HOO.out hox, Int.toNat_natCast])
        have HVC := Lib.hid hox.zero.2
        clear hr2 hb2 hox hV
        go_wp2_with fail
        refine HLT.out.mono ?_
        cases ox with
        | none =>
          rintro e w3 ⟨rfl, hb3⟩
          have B3 := Lib.hid (B2.out.trans (hb3.mono hz2))
          have HR := Lib.hid (show ((0, 0, 5) : Int × Int × Int) = R from HR1.out)
          clear hb3 HR1
          go_wp2_with fail
          go_ret3
          rw [← HR.out]
          exact ⟨rfl, B3.out⟩
        | some cc =>
          rintro e w3 ⟨⟨A3, c3, rfl, hr3⟩, hb3⟩
          have B3 := Lib.hid (B2.out.trans (hb3.mono hz2)); have R3 := Lib.hid hr3; have hz3 := B3.out.size
          have HN := Lib.hid (numeralOfComb_c A3 cc.length c3 cc kb R w3 R3.out (HVC.out cc rfl).1 HQ1.out HR1.out)
          clear hr3 hb3 HR1
          go_wp2_with fail
          refine HN.out.mono ?_
          rintro e w4 ⟨rfl, hb4⟩
          have B4 := Lib.hid (B3.out.trans (hb4.mono hz3))
          clear hb4
          go_wp2_with fail
          go_ret3
          exact ⟨rfl, B4.out⟩
end Go.Proofs.YtebjpmmgdkepjaaGreatDoor
/-
  Contracts: orders of six numbers.
-/
namespace Go.Proofs.YtebjpmmgdkepjaaGreatDoor
open Go.RowKit

set_option maxHeartbeats 4000000 in
set_option maxRecDepth 100000 in
theorem l00Has_c (A : Option Addr) (n c : Nat) (xs : List Int) (v : Int) (w : World) (h : RdI w A n xs) (hn : n ≤ 1000000000) (q : Bool) (hq : xs.contains v = q) :
    Calls Tryz.prog 130 #[.slice A n c, .int .i64 v] w fun e w' => e = .returned (.bool q) ∧ w = w' := by
  have HL := Lib.hid h.len
  have HQ := Lib.hid hq
  have H := Lib.hid h; clear h hq
  go_enter Tryz.func130, Tryz.ntmps130
  go_wp2
  go_loop [5] (fun i => ∃ k : Nat, k ≤ n ∧ i = .int .i64 k ∧ Hid ((xs.drop k).contains v = q)) (fun i => n - (intOf i).toNat)
  case atStart => exact ⟨0, by omega, rfl, HQ.out⟩
  case round =>
    obtain ⟨k, hk, rfl, hr⟩ := hrel
    by_cases hlt : k < n
    · obtain ⟨ad, x, rfl, hb, hx, hc⟩ := H.out.at_ hlt
      have HR := Lib.hid (show (v == x || (xs.drop (k + 1)).contains v) = q by rw [← hr.out, drop_at hx, List.contains_cons])
      clear hx hr
      by_cases he : x = v
      · subst he
        have HG := Lib.hid (show true = q by rw [← HR.out]; simp)
        go_wp2_with fail
        go_ret
        exact ⟨by rw [← HG.out]; rfl, rfl⟩
      · have gk : (x == v) = false := by simpa using he
        have HG := Lib.hid (show (xs.drop (k + 1)).contains v = q by rw [← HR.out]; simp [Ne.symm he])
        clear HR
        go_wp2_with fail
        go_round
        case rel => exact ⟨k + 1, by omega, by go_num, HG.out⟩
        case measure => simp [intOf]; omega
    · have HG := Lib.hid (show false = q by rw [← hr.out, List.drop_eq_nil_of_le (by rw [HL.out]; omega)]; rfl)
      go_wp2_with fail
      go_ret
      exact ⟨by rw [← HG.out]; rfl, rfl⟩
end Go.Proofs.YtebjpmmgdkepjaaGreatDoor
