/-
  Parts of the proof, one behind the other: contracts of the functions that the law reaches, and plain laws.
-/
import Derived.Test.YtebjpmmgdkepjaaGreatDoorProg
import Derived.ProofKit
import Derived.OpenShut
import Derived.Lib.SmallJoins
import Derived.Deep.Slices
import Derived.Deep.Strs
import Derived.Test.YtebjpmmgdkepjaaGreatDoorLot01
import Derived.Test.YtebjpmmgdkepjaaGreatDoorLot03
import Derived.Test.YtebjpmmgdkepjaaGreatDoorLot22
import Derived.Test.YtebjpmmgdkepjaaGreatDoorLot23
import Derived.Test.YtebjpmmgdkepjaaGreatDoorLot31
import Derived.Test.YtebjpmmgdkepjaaGreatDoorLot32
import Derived.Test.YtebjpmmgdkepjaaGreatDoorLot33
/-
  Functions as terms: the reference's evaluation of a function by its lambda term.
-/
namespace Go.Proofs.YtebjpmmgdkepjaaGreatDoor
open Go.RowKit
open FTr

set_option maxHeartbeats 4000000 in
set_option maxRecDepth 100000 in
theorem l18Applied_c (t : FTr) (ad : Addr) (n cp : Nat) (G : Option Addr) (m mc : Nat) (ys : List Int) (o : Option LT) (w : World) (ho : okT t = true) (hl : (flat t).length ≤ 60) (h : Rd3 w (some ad) n (flat t)) (hnc : n ≤ cp) (hG : RdI w G m ys) (ha : allB 0 150 ys = true) (hm : m ≤ 4) (hoo : apO t ys = o) :
    Calls Tryz.prog 44 #[.slice (some ad) n cp, .slice G m mc] w (TrS o w) := by
  have HC := Lib.hid (fun (w' : World) (hb : Below w.heap.size w w') => l18Term_c t ho hl ad n cp w' (Rd3.below h hb) hnc)
  have H := Lib.hid hG; have HA := Lib.hid ha; have HOO := Lib.hid hoo; have HL := Lib.hid hG.len
  clear ho hl h hG ha hoo
  go_enter Tryz.func44, Tryz.ntmps44
  go_wp2_with fail
  go_loopw [6, 7] (fun ov iv wr => ∃ (k oc : Nat) (O : Option Addr) (ps : List Tm), k ≤ m ∧ iv = .int .i64 k ∧ ov = .slice O k oc ∧ Hid (LmS wr w.heap.size 25 O k oc ps) ∧ Hid (ps.map Tm.t = (numsL ys).take k) ∧ Below w.heap.size w wr) (fun _ iv _ => m - (intOf iv).toNat)
  case atStart => exact ⟨0, 0, _, [], by omega, rfl, rfl, LmS.nil (Own.lit (Nat.le_refl _)), rfl, below_size.alloc (Nat.le_refl _) _⟩
  case round =>
    obtain ⟨k, oc, O, ps, hk, rfl, rfl, hO, hp, hb⟩ := hrel
    have HB := Lib.hid hb
    have hwz := hb.size
    by_cases hlt : k < m
    · obtain ⟨pd, y, rfl, _, hy, hcy⟩ := (RdI.below H.out hb).at_ hlt
      have hyb := allB_mem HA.out y (List.mem_of_getElem? hy)
      obtain ⟨v, rfl⟩ : ∃ v : Nat, y = (v : Int) := ⟨y.toNat, by omega⟩
      have HX := Lib.hid (show (numsL ys).take (k + 1) = (numsL ys).take k ++ [numLm v] by
        refine take_at ?_
        rw [numsL, List.getElem?_map, hy]; rfl)
      have HN := Lib.hid (fun w => l12Numeral_c v w (by omega))
      obtain ⟨n2, hn2⟩ : ∃ n2, 2 * v + 3 = n2 := ⟨_, rfl⟩
      rw [hn2] at HN
      have hn2b : n2 ≤ 303 := by omega
      clear hy hb hn2 hyb
      go_wp2_with fail
      refine (HN.out _).mono ?_
      rintro e w4 ⟨A4, c4, rfl, hl4, hw4, hc4, hb4⟩
      have D4 := Lib.hid hb4; have W4 := Lib.hid hw4; have z4 := hb4.size; have E4 := Lib.hid (HB.out.trans (hb4.mono hwz)); have HL4 := Lib.hid hl4
      clear hl4 hw4 hc4 hb4
      go_wp2_with (at_builtin; refine wp_app1 (by rfl) _ _ 32 25 (.slice none 0 0) 24 (by rfl) Tryz.underlying32 info_sLam rfl w.heap.size O k oc (ps.map Tm.hd) (by rfl) (by exact (hO.out.own.keep D4.out).alloc _) w4.heap.size (.slice A4 n2 c4) (by rfl) (by exact new_cell _ _ _ 0) rfl (by omega) (by omega) (by simp; omega) ?_; intro g' cap w5 own5 hb5 hk5 hg5 hz5; have L5 := Lib.hid (LmS.push hO.out hwz (w1 := w4.alloc (.cells #[.slice A4 n2 c4] 25)) (p := ⟨A4, c4, numLm v⟩) (D4.out.alloc z4 _) (by show Wr _ _ _ A4 ((numLm v).length * 2) _; rw [HL4.out]; exact (W4.out.below (below_size.alloc (Nat.le_refl _) _)).wider (Nat.le_refl _) (by simp)) (by rw [List.map_append]; show Own _ _ _ _ _ _ _ (_ ++ [.slice A4 (numLm v).length c4]); rw [HL4.out]; exact own5) hk5 hg5 hz5); have E5 := Lib.hid ((E4.out.alloc (by omega) _).trans hb5); clear own5 hb5 hk5 hg5 hz5)
      go_roundw
      case rel => exact ⟨k + 1, cap, some ⟨g', 0, none⟩, ps ++ [(⟨A4, c4, numLm v⟩ : Tm)], by omega, by go_num, rfl, L5.out, by unfold Hid; rw [List.map_append, hp.out, HX.out]; rfl, E5.out⟩
      case measure => simp [intOf]; omega
    · obtain rfl : k = m := by omega
      have HPS := Lib.hid (show ps.map Tm.t = numsL ys by rw [hp.out, List.take_of_length_le (by rw [numsL_len, HL.out]; exact Nat.le_refl _)])
      have V := Lib.hid hO.out.rdV
      clear hb hp
      obtain ⟨tr, htr⟩ : ∃ tr, trmO t = tr := ⟨_, rfl⟩
      rw [htr] at HC
      have HTR := Lib.hid htr
      clear htr
      cases tr with
      | none =>
        have HG0 := Lib.hid (show none = o by rw [← HOO.out, apO_no HTR.out])
        go_wp2_with fail
        refine (HC.out _ HB.out).mono ?_
        rintro e w1 ⟨⟨v, rfl⟩, hb1⟩
        have B1 := Lib.hid (HB.out.trans (hb1.mono hwz))
        clear hb1
        go_wp2_with fail
        refine bodyPost_ret (v := .tuple #[.slice none 0 0, .bool false]) (by simp [results, Tryz.results44, go_sem]) rfl ?_
        rw [← HG0.out]
        exact TrS.no B1.out
      | some u =>
        have hul : u.length ≤ 400 := (validL_end (trmO_valid HTR.out)).2.2
        obtain ⟨W, hW⟩ : ∃ W, appLm u (numsL ys) = W := ⟨_, rfl⟩
        obtain ⟨q, hq⟩ : ∃ q, validL W = q := ⟨_, rfl⟩
        have HG0 := Lib.hid (show (if q = true then some W else none) = o by rw [← HOO.out, apO_yes HTR.out, hW, hq])
        have hVb : W.length ≤ 3000 := by
          have h1 := numsL_flat HA.out
          have h2 : ys.length * 303 ≤ 4 * 303 := Nat.mul_le_mul_right _ (by rw [HL.out]; exact hm)
          rw [← hW, appLm_len, numsL_len, HL.out]; omega
        have HW := Lib.hid hW; have HQ := Lib.hid hq
        clear hW hq
        go_wp2_with fail
        refine (HC.out _ HB.out).mono ?_
        rintro e w1 ⟨⟨A1, c1, rfl, hw1, hc1⟩, hb1⟩
        have B1 := Lib.hid (HB.out.trans (hb1.mono hwz)); have R1 := Lib.hid (show Rd2 w1 A1 u.length u from hw1.rd); have V1 := Lib.hid (V.out.below hb1); have hz1 := B1.out.size
        clear hw1 hc1 hb1
        go_wp2_with fail
        refine (l12ApplyT_c A1 u.length c1 u O k oc W.length ps W _ R1.out V1.out (by omega) (by rw [HPS.out]; exact HW.out) rfl (by omega)).mono ?_
        rintro e w2 ⟨A2, c2, rfl, _, hw2, hc2, hb2⟩
        have B2 := Lib.hid (B1.out.trans (hb2.mono hz1)); have W2 := Lib.hid (hw2.wider (lo' := w.heap.size) hz1 (Nat.le_refl _)); have C2 := Lib.hid hc2; have hz2 := B2.out.size
        clear hw2 hc2 hb2
        go_wp2_with fail
        refine (l12Is_c A2 W.length c2 W q _ W2.out.rd (by omega) HQ.out).mono ?_
        rintro e w3 ⟨rfl, hb3⟩
        have B3 := Lib.hid (B2.out.trans (hb3.mono hz2)); have W3 := Lib.hid ((W2.out.below hb3).wider (Nat.le_refl _) hb3.size)
        clear hb3
        go_wp2_with fail
        refine bodyPost_ret (v := .tuple #[.slice A2 W.length c2, .bool q]) (by simp [results, Tryz.results44, go_sem]) rfl ?_
        rw [← HG0.out]
        cases q
        · exact TrS.no B3.out
        · exact TrS.yes W3.out C2.out B3.out
set_option maxHeartbeats 4000000 in
set_option maxRecDepth 100000 in
theorem sEvalByLam_c (A : Option Addr) (n c : Nat) (xs : List Nd3) (A' : Option Addr) (n' c' : Nat) (ys : List Int) (b : Int) (w : World) (h : Rd3 w A n xs) (h' : RdI w A' n' ys) (hn : n ≤ 1000000000) (hn' : n' ≤ 1000000000) (hnc : n ≤ c) :
    Calls Tryz.prog 16 #[.slice A n c, .slice A' n' c', .int .i64 b] w fun e w' => e = .returned (.tuple #[.int .i64 (evF xs ys b).1, .int .i64 (evF xs ys b).2.1, .int .i64 (evF xs ys b).2.2]) ∧ Below w.heap.size w w' := by
  obtain ⟨R, hR⟩ : ∃ R, evF xs ys b = R := ⟨_, rfl⟩
  rw [hR]
  cases hv : validF xs with
  | false =>
    have HR := Lib.hid (show ((0, 0, 1) : Int × Int × Int) = R by rw [← hR, evF_bad hv])
    have HC := Lib.hid (l11Is_c A n c xs false w h hn hv)
    clear h h' hR hv
    go_enter Tryz.func16, Tryz.ntmps16
    go_wp2_with fail
    refine HC.out.mono ?_
    rintro e w1 ⟨rfl, hb1⟩
    have B1 := Lib.hid hb1
    clear hb1
    go_wp2_with fail
    go_ret3
    rw [← HR.out]
    exact ⟨rfl, B1.out⟩
  | true =>
    obtain ⟨h60, t, hok, rfl⟩ := validF_iff.1 hv
    have hp := flat_pos t
    obtain ⟨ad, rfl, _⟩ := h.2 (by rw [h.len] at hp; omega)
    have HI := Lib.hid (l11Is_c (some ad) n c (flat t) true w h hn hv)
    rw [evF_flat hok h60] at hR
    obtain ⟨x, hx0, hxa⟩ : ∃ x, (flat t)[0]? = some x ∧ ar t = x.2.1 := by
      obtain ⟨x, ts⟩ := t
      exact ⟨x, by rw [flat_mk]; rfl, rfl⟩
    obtain ⟨qb, hqb⟩ : ∃ q, inB b 1 20000 = q := ⟨_, rfl⟩
    obtain ⟨qa, hqa⟩ : ∃ q, argsB x.2.1 ys = q := ⟨_, rfl⟩
    have HBU := Lib.hid (fun (w : World) => l05BudgetC_b b qb hqb w)
    have HAR := Lib.hid (fun (w' : World) (hb : Below w.heap.size w w') => l18Args_c ad n c (flat t) x A' n' c' ys qa w' (Rd3.below h hb) hx0 (RdI.below h' hb) hn' hqa)
    have hq : (inB b 1 20000 && argsB (ar t) ys) = (qb && qa) := by rw [hqb, hxa, hqa]
    by_cases hqq : (qb && qa) = true
    · obtain ⟨hq1, hq2⟩ := Bool.and_eq_true_iff.1 hqq
      subst hq1 hq2
      have hall : allB 0 150 ys = true := by rw [argsB, Bool.and_eq_true] at hqa; exact hqa.2
      have har : (ys.length : Int) = x.2.1 := by rw [argsB, Bool.and_eq_true, decide_eq_true_eq] at hqa; exact hqa.1
      have hn4 : n' ≤ 4 := by
        obtain ⟨y, ts⟩ := t
        have h9 := (nodeF_ar (okT_iff.1 hok).node).2.1
        rw [flat_mk] at hx0
        injection hx0 with hx0; subst hx0
        rw [h'.len] at har; omega
      have hb0 := inB_t hqb
      obtain ⟨k, rfl⟩ : ∃ k : Nat, b = (k : Int) := ⟨b.toNat, by omega⟩
      obtain ⟨o, hoo⟩ : ∃ o, apO t ys = o := ⟨_, rfl⟩
      have HAP := Lib.hid (fun (w' : World) (hb : Below w.heap.size w w') => l18Applied_c t ad n c A' n' c' ys o w' hok h60 (Rd3.below h hb) hnc (RdI.below h' hb) hall hn4 hoo)
      have HOO := Lib.hid hoo; have HQ := Lib.hid (show (inB (k : Int) 1 20000 && argsB (ar t) ys) = true from hq); have HR0 := Lib.hid hR
      clear h h' hR hv hok h60 hp hq hqq hqa hqb hall har hn4 hoo hx0 hxa
      go_enter Tryz.func16, Tryz.ntmps16
      go_wp2_with fail
      refine HI.out.mono ?_
      rintro e w1 ⟨rfl, hb1⟩
      have B1 := Lib.hid hb1; have hz1 := hb1.size
      clear hb1
      go_wp2_with fail
      refine (HBU.out _).mono ?_
      rintro e w' ⟨rfl, rfl⟩
      go_wp2_with fail
      refine (HAR.out _ B1.out).mono ?_
      rintro e w' ⟨rfl, rfl⟩
      go_wp2_with fail
      refine (HAP.out _ B1.out).mono ?_
      cases o with
      | none =>
        have HR := Lib.hid (show ((0, 0, 5) : Int × Int × Int) = R by rw [← HR0.out, evT_no HQ.out HOO.out])
        rintro e w2 ⟨⟨v, rfl⟩, hb2⟩
        have B2 := Lib.hid (B1.out.trans (hb2.mono hz1))
        clear hb2
        go_wp2_with fail
        go_ret3
        rw [← HR.out]
        exact ⟨rfl, B2.out⟩
      | some u =>
        rintro e w2 ⟨⟨A2, c2, rfl, hw2, hc2⟩, hb2⟩
        have B2 := Lib.hid (B1.out.trans (hb2.mono hz1)); have R2 := Lib.hid (show Rd2 w2 A2 u.length u from hw2.rd); have hz2 := B2.out.size
        have hV := apO_valid HOO.out
        obtain ⟨X, hX⟩ : ∃ X, runL k u 0 = X := ⟨_, rfl⟩
        have HR := Lib.hid (show lamA X = R by rw [← HR0.out, evT_yes HQ.out HOO.out, Int.toNat_natCast, hX])
        have HRC := Lib.hid (l12Run_c A2 u.length c2 u k X w2 R2.out hV (by omega) hX)
        have HVX := Lib.hid (show ∀ v k' q, X = some (v, k', q) → v.length ≤ 400 ∧ k' ≤ 20000 from fun v k' q e => by
          have h9 := runL_valid hV (by rw [hX, e])
          exact ⟨(validL_end h9.1).2.2, by omega⟩)
        clear hw2 hc2 hb2 hX
        go_wp2_with fail
        refine HRC.out.mono ?_
        cases X with
        | none =>
          rintro e w3 ⟨rfl, hb3⟩
          have B3 := Lib.hid (B2.out.trans (hb3.mono hz2))
          clear hb3
          go_wp2_with fail
          go_ret3
          rw [← HR.out]
          exact ⟨rfl, B3.out⟩
        | some vkq =>
          obtain ⟨v, k', q⟩ := vkq
          obtain ⟨hvv, hk⟩ := HVX.out v k' q rfl
          rintro e w3 ⟨A3, n3, c3, rfl, hw3, hn3, _, hb3⟩
          have B3 := Lib.hid (B2.out.trans (hb3.mono hz2)); have R3 := Lib.hid (show Rd2 w3 A3 n3 v from hw3.rd); have hz3 := B3.out.size
          have hn3b : n3 ≤ 400 := by omega
          clear hb3 hw3 hvv hn3
          cases q with
          | false =>
            go_wp2_with fail
            go_ret3
            rw [← HR.out]
            exact ⟨rfl, B3.out⟩
          | true =>
            obtain ⟨z, hz⟩ : ∃ z, nvL v = z := ⟨_, rfl⟩
            have HNV := Lib.hid (l12Value_c A3 n3 c3 v w3 R3.out (by omega))
            rw [hz] at HNV
            have HR2 := Lib.hid (show (if z < 0 then ((0, 0, 3) : Int × Int × Int) else (z, (k' : Int), 0)) = R by rw [← HR.out, lamA, if_pos rfl, hz])
            clear hz
            by_cases hz0 : z < 0
            · have HR3 := Lib.hid (show ((0, 0, 3) : Int × Int × Int) = R by rw [← HR2.out, if_pos hz0])
              go_wp2_with fail
              refine HNV.out.mono ?_
              rintro e w4 ⟨rfl, hb4⟩
              have B4 := Lib.hid (B3.out.trans (hb4.mono hz3))
              clear hb4
              go_wp2_with fail
              go_ret3
              rw [← HR3.out]
              exact ⟨rfl, B4.out⟩
            · have HR3 := Lib.hid (show ((z, (k' : Int), 0) : Int × Int × Int) = R by rw [← HR2.out, if_neg hz0])
              go_wp2_with fail
              refine HNV.out.mono ?_
              rintro e w4 ⟨rfl, hb4⟩
              have B4 := Lib.hid (B3.out.trans (hb4.mono hz3))
              clear hb4
              go_wp2_with fail
              go_ret3
              rw [← HR3.out]
              exact ⟨rfl, B4.out⟩
    · have hqf : (qb && qa) = false := by cases h9 : (qb && qa) with | false => rfl | true => exact absurd h9 hqq
      have HR := Lib.hid (show ((0, 0, 2) : Int × Int × Int) = R by rw [← hR, evT_bad (by rw [hq, hqf])])
      have HQF := Lib.hid hqf
      clear h h' hR hv hok h60 hp hq hqq hqa hqb hqf hx0 hxa
      go_enter Tryz.func16, Tryz.ntmps16
      go_wp2_with fail
      refine HI.out.mono ?_
      rintro e w1 ⟨rfl, hb1⟩
      have B1 := Lib.hid hb1; have hz1 := hb1.size
      clear hb1
      cases qb with
      | false =>
        go_wp2_with fail
        refine (HBU.out _).mono ?_
        rintro e w' ⟨rfl, rfl⟩
        go_wp2_with fail
        go_ret3
        rw [← HR.out]
        exact ⟨rfl, B1.out⟩
      | true =>
        have hqa0 : qa = false := HQF.out
        subst hqa0
        go_wp2_with fail
        refine (HBU.out _).mono ?_
        rintro e w' ⟨rfl, rfl⟩
        go_wp2_with fail
        refine (HAR.out _ B1.out).mono ?_
        rintro e w' ⟨rfl, rfl⟩
        go_wp2_with fail
        go_ret3
        rw [← HR.out]
        exact ⟨rfl, B1.out⟩
end Go.Proofs.YtebjpmmgdkepjaaGreatDoor
/-
  How the laws' arguments read: each type's value and what its memory holds.
-/
namespace Go.Proofs.YtebjpmmgdkepjaaGreatDoor
open Go.ChangeShapes Go.WideShapes Go.ChangeAt Go.RowKit Go.Joins

def i64ok (x : Int) : Prop := -9223372036854775808 ≤ x ∧ x ≤ 9223372036854775807
theorem i64ok_of {x : Int} (h : (Lit.int .i64 x).wf = true) : i64ok x := by
  have := bounds_i64 h
  unfold i64ok; omega

section
variable {H : Type} {enc : TypeId × Value → H} {W : World} {fuel : Nat} {y : DataW H × List MemPlace}

theorem trod_I64 {c : Value} (h : DataW.trod enc Tryz.prog W 0 (fun _ => true) true fuel 2 [c] = some y) : ∃ x, c = .int .i64 x ∧ i64ok x := by
  obtain ⟨x, e, _, hw⟩ := DataW.trod_int Tryz.underlying2 h
  injection e with e
  exact ⟨x, e, i64ok_of hw⟩

theorem trod_I64S {c : Value} (h : DataW.trod enc Tryz.prog W 0 (fun _ => true) true fuel 29 [c] = some y) :
    ∃ A n cp xs, c = .slice A n cp ∧ RdI W A n xs ∧ n ≤ 9223372036854775807 ∧ ∀ x ∈ xs, i64ok x := by
  rcases open_ints Tryz.underlying29 Tryz.underlying2 (by kernel_rfl) h with ⟨hcs, _⟩ | ⟨a, l, cp, zs, hcs, _, hl, hm, hz, _, hcell, hwz⟩
  · injection hcs with hcs
    exact ⟨none, 0, 0, [], hcs, RdI.nil, by omega, by simp⟩
  · injection hcs with hcs
    unfold maxLen at hm
    rw [if_pos rfl] at hz
    refine ⟨some a, l, cp, zs.take l, hcs, ⟨by simp; omega, fun hl0 => ⟨a, rfl, ?_, fun j v hj => ?_⟩⟩, by omega, fun x hx => i64ok_of (hwz x (List.mem_of_mem_take hx))⟩
    · have := World.block_lt_of_cell? W _ (hcell 0 (by omega))
      rwa [block_add] at this
    · rw [List.getElem?_map, List.getElem?_take] at hj
      split at hj
      · rename_i hjl
        rw [hcell j (by omega)]
        rw [List.getElem?_eq_getElem (by omega)] at hj
        simp at hj
        rw [← hj]
        simp [List.getD_eq_getElem?_getD, List.getElem?_eq_getElem (show j < zs.length by omega)]
      · simp at hj
end

section
variable {H : Type} {enc : TypeId × Value → H} {W : World} {base : Nat} {v : Value} {d : DataW H} {p : List MemPlace}

set_option maxRecDepth 100000 in
theorem open_I64S (hv : Value.okWide Tryz.prog W .any base 29 v) (h : DataW.Trod enc Tryz.prog W 0 (fun _ => true) true 29 v d p) :
    ∃ A n cp xs, v = .slice A n cp ∧ RdI W A n xs ∧ n ≤ 9223372036854775807 ∧ ∀ x ∈ xs, i64ok x := by
  obtain ⟨a, l, c, rfl⟩ := okWide_slice Tryz.underlying29 hv
  obtain ⟨fuel, hf⟩ := h
  exact trod_I64S (c := .slice a l c) (by simpa [Value.cells] using hf)

end
end Go.Proofs.YtebjpmmgdkepjaaGreatDoor
/-
  FnExactEvalByLam returns true for every input: its walk, out of the contracts.
-/
namespace Go.Proofs.YtebjpmmgdkepjaaGreatDoor
open Go.RowKit

set_option maxHeartbeats 4000000 in
set_option maxRecDepth 100000 in
theorem walkEvalByLam (A0 : Option Addr) (n0 : Nat) (c0 : Nat) (xs0 : List (Int × Int × Int)) (A1 : Option Addr) (n1 : Nat) (c1 : Nat) (xs1 : List Int) (x2 : Int) (w : World) (h0 : Rd3 w A0 n0 xs0) (hb0 : n0 ≤ 9223372036854775807) (h1 : RdI w A1 n1 xs1) (hb1 : n1 ≤ 9223372036854775807) (_oo1 : ∀ x ∈ xs1, i64ok x) (_o2 : i64ok x2) (hT : LibS w) :
    Calls Tryz.prog 4 #[.slice A0 n0 c0, .slice A1 n1 c1, .int .i64 x2] w fun e w' => e = .returned (.bool true) ∧ Below w.heap.size w w' := by
  have P0 := Lib.hid (RdU.mk' h0); clear h0
  have P1 := Lib.hid (RdU.mk' h1); clear h1
  have HTB := Lib.hid hT; clear hT
  by_cases hsa1 : 1048576 < n1
  · go_enter Tryz.func4, Tryz.ntmps4
    go_wp2
    go_ret
    exact ⟨rfl, below_size⟩
  go_enter Tryz.func4, Tryz.ntmps4
  go_wp2_with fail
  refine (szFuncS_c _ _ _ _ _ hb0 (by omega) (by omega)).mono ?_
  rintro e w1 ⟨rfl, hb⟩
  have hb' : Below w.heap.size w w1 := (by first | (with_reducible exact hb) | (with_reducible exact up1 hb) | (with_reducible exact up2 hb) | (with_reducible exact up3 hb) | (with_reducible exact up4 hb) | (with_reducible exact below_of_drew hb) | (with_reducible exact below_of_drew (up1 hb)))
  have z1 := hb'.size
  have rP0 := P0.out.below hb'; clear P0; have P0 := Lib.hid rP0; clear rP0
  have rP1 := P1.out.below hb'; clear P1; have P1 := Lib.hid rP1; clear rP1
  have rB := hb'; have B := Lib.hid rB; clear rB
  clear hb hb'
  by_cases hs1 : 1048576 < n0
  · rw [szOf_neg' (by omega)]
    go_wp2
    go_ret
    exact ⟨rfl, B.out⟩
  rw [szOf_pos' (by omega)]
  have hs1' : (0 : Int) ≤ 1048576 - (n0 : Nat) := by omega
  go_wp2_with fail
  refine (toFuncS_c _ _ _ _ _ (by exact (P0.out.1)) (by omega)).mono ?_
  rintro e w2 ⟨rfl, q2, hb⟩
  have hb' : Below w1.heap.size w1 w2 := (by first | (with_reducible exact hb) | (with_reducible exact up1 hb) | (with_reducible exact up2 hb) | (with_reducible exact up3 hb) | (with_reducible exact up4 hb) | (with_reducible exact below_of_drew hb) | (with_reducible exact below_of_drew (up1 hb)))
  have z2 := hb'.size
  have rP0 := P0.out.below hb'; clear P0; have P0 := Lib.hid rP0; clear rP0
  have rP1 := P1.out.below hb'; clear P1; have P1 := Lib.hid rP1; clear rP1
  have rB := below_chain B.out (by omega) hb'; clear B; have B := Lib.hid rB; clear rB
  have Fo11 := Lib.hid q2; clear q2
  clear hb hb'
  go_wp2_with fail
  refine (toInt64S_c _ _ _ _ _ (by exact (P1.out.1)) (by omega)).mono ?_
  rintro e w3 ⟨rfl, q3, hb⟩
  have hb' : Below w2.heap.size w2 w3 := (by first | (with_reducible exact hb) | (with_reducible exact up1 hb) | (with_reducible exact up2 hb) | (with_reducible exact up3 hb) | (with_reducible exact up4 hb) | (with_reducible exact below_of_drew hb) | (with_reducible exact below_of_drew (up1 hb)))
  have z3 := hb'.size
  have rP0 := P0.out.below hb'; clear P0; have P0 := Lib.hid rP0; clear rP0
  have rP1 := P1.out.below hb'; clear P1; have P1 := Lib.hid rP1; clear rP1
  have rFo11 := Fo11.out.below hb'; clear Fo11; have Fo11 := Lib.hid rFo11; clear rFo11
  have rB := below_chain B.out (by omega) hb'; clear B; have B := Lib.hid rB; clear rB
  have Fo12 := Lib.hid q3; clear q3
  clear hb hb'
  go_wp2_with fail
  refine (sEvalByLam_c _ _ _ _ _ _ _ _ _ _ (by exact (Fo11.out.rd)) (by exact (Fo12.out.rdI)) (by omega) (by omega) (Nat.le_refl _)).mono ?_
  rintro e w4 ⟨rfl, hb⟩
  have hb' : Below w3.heap.size w3 w4 := (by first | (with_reducible exact hb) | (with_reducible exact up1 hb) | (with_reducible exact up2 hb) | (with_reducible exact up3 hb) | (with_reducible exact up4 hb) | (with_reducible exact below_of_drew hb) | (with_reducible exact below_of_drew (up1 hb)))
  have z4 := hb'.size
  have rP0 := P0.out.below hb'; clear P0; have P0 := Lib.hid rP0; clear rP0
  have rP1 := P1.out.below hb'; clear P1; have P1 := Lib.hid rP1; clear rP1
  have rFo11 := Fo11.out.below hb'; clear Fo11; have Fo11 := Lib.hid rFo11; clear rFo11
  have rFo12 := Fo12.out.below hb'; clear Fo12; have Fo12 := Lib.hid rFo12; clear rFo12
  have rB := below_chain B.out (by omega) hb'; clear B; have B := Lib.hid rB; clear rB
  clear hb hb'
  go_wp2_with fail
  refine (toFuncS_c _ _ _ _ _ (by exact (P0.out.1)) (by omega)).mono ?_
  rintro e w5 ⟨rfl, q5, hb⟩
  have hb' : Below w4.heap.size w4 w5 := (by first | (with_reducible exact hb) | (with_reducible exact up1 hb) | (with_reducible exact up2 hb) | (with_reducible exact up3 hb) | (with_reducible exact up4 hb) | (with_reducible exact below_of_drew hb) | (with_reducible exact below_of_drew (up1 hb)))
  have z5 := hb'.size
  have rP0 := P0.out.below hb'; clear P0; have P0 := Lib.hid rP0; clear rP0
  have rP1 := P1.out.below hb'; clear P1; have P1 := Lib.hid rP1; clear rP1
  have rFo11 := Fo11.out.below hb'; clear Fo11; have Fo11 := Lib.hid rFo11; clear rFo11
  have rFo12 := Fo12.out.below hb'; clear Fo12; have Fo12 := Lib.hid rFo12; clear rFo12
  have rB := below_chain B.out (by omega) hb'; clear B; have B := Lib.hid rB; clear rB
  have Fo13 := Lib.hid q5; clear q5
  clear hb hb'
  go_wp2_with fail
  refine (toInt64S_c _ _ _ _ _ (by exact (P1.out.1)) (by omega)).mono ?_
  rintro e w6 ⟨rfl, q6, hb⟩
  have hb' : Below w5.heap.size w5 w6 := (by first | (with_reducible exact hb) | (with_reducible exact up1 hb) | (with_reducible exact up2 hb) | (with_reducible exact up3 hb) | (with_reducible exact up4 hb) | (with_reducible exact below_of_drew hb) | (with_reducible exact below_of_drew (up1 hb)))
  have z6 := hb'.size
  have rP0 := P0.out.below hb'; clear P0; have P0 := Lib.hid rP0; clear rP0
  have rP1 := P1.out.below hb'; clear P1; have P1 := Lib.hid rP1; clear rP1
  have rFo11 := Fo11.out.below hb'; clear Fo11; have Fo11 := Lib.hid rFo11; clear rFo11
  have rFo12 := Fo12.out.below hb'; clear Fo12; have Fo12 := Lib.hid rFo12; clear rFo12
  have rFo13 := Fo13.out.below hb'; clear Fo13; have Fo13 := Lib.hid rFo13; clear rFo13
  have rB := below_chain B.out (by omega) hb'; clear B; have B := Lib.hid rB; clear rB
  have Fo14 := Lib.hid q6; clear q6
  clear hb hb'
  go_wp2_with fail
  refine (iEvalByLam_c _ _ _ _ _ _ _ _ _ _ (by exact (Fo13.out.rd)) (by exact (Fo14.out.rdI)) (by omega) (by omega) (Nat.le_refl _) (by exact ((HTB.out.below B.out)))).mono ?_
  rintro e w7 ⟨rfl, hb⟩
  have hb' : Below w6.heap.size w6 w7 := (by first | (with_reducible exact hb) | (with_reducible exact up1 hb) | (with_reducible exact up2 hb) | (with_reducible exact up3 hb) | (with_reducible exact up4 hb) | (with_reducible exact below_of_drew hb) | (with_reducible exact below_of_drew (up1 hb)))
  have z7 := hb'.size
  have rP0 := P0.out.below hb'; clear P0; have P0 := Lib.hid rP0; clear rP0
  have rP1 := P1.out.below hb'; clear P1; have P1 := Lib.hid rP1; clear rP1
  have rFo11 := Fo11.out.below hb'; clear Fo11; have Fo11 := Lib.hid rFo11; clear rFo11
  have rFo12 := Fo12.out.below hb'; clear Fo12; have Fo12 := Lib.hid rFo12; clear rFo12
  have rFo13 := Fo13.out.below hb'; clear Fo13; have Fo13 := Lib.hid rFo13; clear rFo13
  have rFo14 := Fo14.out.below hb'; clear Fo14; have Fo14 := Lib.hid rFo14; clear rFo14
  have rB := below_chain B.out (by omega) hb'; clear B; have B := Lib.hid rB; clear rB
  clear hb hb'
  go_wp2_with fail
  refine (toFuncS_c _ _ _ _ _ (by exact (P0.out.1)) (by omega)).mono ?_
  rintro e w8 ⟨rfl, q8, hb⟩
  have hb' : Below w7.heap.size w7 w8 := (by first | (with_reducible exact hb) | (with_reducible exact up1 hb) | (with_reducible exact up2 hb) | (with_reducible exact up3 hb) | (with_reducible exact up4 hb) | (with_reducible exact below_of_drew hb) | (with_reducible exact below_of_drew (up1 hb)))
  have z8 := hb'.size
  have rP0 := P0.out.below hb'; clear P0; have P0 := Lib.hid rP0; clear rP0
  have rP1 := P1.out.below hb'; clear P1; have P1 := Lib.hid rP1; clear rP1
  have rFo11 := Fo11.out.below hb'; clear Fo11; have Fo11 := Lib.hid rFo11; clear rFo11
  have rFo12 := Fo12.out.below hb'; clear Fo12; have Fo12 := Lib.hid rFo12; clear rFo12
  have rFo13 := Fo13.out.below hb'; clear Fo13; have Fo13 := Lib.hid rFo13; clear rFo13
  have rFo14 := Fo14.out.below hb'; clear Fo14; have Fo14 := Lib.hid rFo14; clear rFo14
  have rB := below_chain B.out (by omega) hb'; clear B; have B := Lib.hid rB; clear rB
  have Fo15 := Lib.hid q8; clear q8
  clear hb hb'
  go_wp2_with fail
  refine (eqFuncS_t _ _ _ _ _ _ _ _ (by exact (Fo13.out.rd)) (by exact (Fo15.out.rd)) (by omega)).mono ?_
  rintro e w9 ⟨rfl, hb⟩
  have hb' : Below w8.heap.size w8 w9 := (by first | (with_reducible exact hb) | (with_reducible exact up1 hb) | (with_reducible exact up2 hb) | (with_reducible exact up3 hb) | (with_reducible exact up4 hb) | (with_reducible exact below_of_drew hb) | (with_reducible exact below_of_drew (up1 hb)))
  have z9 := hb'.size
  have rP0 := P0.out.below hb'; clear P0; have P0 := Lib.hid rP0; clear rP0
  have rP1 := P1.out.below hb'; clear P1; have P1 := Lib.hid rP1; clear rP1
  have rFo11 := Fo11.out.below hb'; clear Fo11; have Fo11 := Lib.hid rFo11; clear rFo11
  have rFo12 := Fo12.out.below hb'; clear Fo12; have Fo12 := Lib.hid rFo12; clear rFo12
  have rFo13 := Fo13.out.below hb'; clear Fo13; have Fo13 := Lib.hid rFo13; clear rFo13
  have rFo14 := Fo14.out.below hb'; clear Fo14; have Fo14 := Lib.hid rFo14; clear rFo14
  have rFo15 := Fo15.out.below hb'; clear Fo15; have Fo15 := Lib.hid rFo15; clear rFo15
  have rB := below_chain B.out (by omega) hb'; clear B; have B := Lib.hid rB; clear rB
  clear hb hb'
  go_wp2_with fail
  refine (toInt64S_c _ _ _ _ _ (by exact (P1.out.1)) (by omega)).mono ?_
  rintro e w10 ⟨rfl, q10, hb⟩
  have hb' : Below w9.heap.size w9 w10 := (by first | (with_reducible exact hb) | (with_reducible exact up1 hb) | (with_reducible exact up2 hb) | (with_reducible exact up3 hb) | (with_reducible exact up4 hb) | (with_reducible exact below_of_drew hb) | (with_reducible exact below_of_drew (up1 hb)))
  have z10 := hb'.size
  have rP0 := P0.out.below hb'; clear P0; have P0 := Lib.hid rP0; clear rP0
  have rP1 := P1.out.below hb'; clear P1; have P1 := Lib.hid rP1; clear rP1
  have rFo11 := Fo11.out.below hb'; clear Fo11; have Fo11 := Lib.hid rFo11; clear rFo11
  have rFo12 := Fo12.out.below hb'; clear Fo12; have Fo12 := Lib.hid rFo12; clear rFo12
  have rFo13 := Fo13.out.below hb'; clear Fo13; have Fo13 := Lib.hid rFo13; clear rFo13
  have rFo14 := Fo14.out.below hb'; clear Fo14; have Fo14 := Lib.hid rFo14; clear rFo14
  have rFo15 := Fo15.out.below hb'; clear Fo15; have Fo15 := Lib.hid rFo15; clear rFo15
  have rB := below_chain B.out (by omega) hb'; clear B; have B := Lib.hid rB; clear rB
  have Fo16 := Lib.hid q10; clear q10
  clear hb hb'
  go_wp2_with fail
  refine (eqInt64S_t _ _ _ _ _ _ _ _ (by exact (Fo14.out.rdI)) (by exact (Fo16.out.rdI)) (by omega)).mono ?_
  rintro e w11 ⟨rfl, hb⟩
  have hb' : Below w10.heap.size w10 w11 := (by first | (with_reducible exact hb) | (with_reducible exact up1 hb) | (with_reducible exact up2 hb) | (with_reducible exact up3 hb) | (with_reducible exact up4 hb) | (with_reducible exact below_of_drew hb) | (with_reducible exact below_of_drew (up1 hb)))
  have z11 := hb'.size
  have rP0 := P0.out.below hb'; clear P0; have P0 := Lib.hid rP0; clear rP0
  have rP1 := P1.out.below hb'; clear P1; have P1 := Lib.hid rP1; clear rP1
  have rFo11 := Fo11.out.below hb'; clear Fo11; have Fo11 := Lib.hid rFo11; clear rFo11
  have rFo12 := Fo12.out.below hb'; clear Fo12; have Fo12 := Lib.hid rFo12; clear rFo12
  have rFo13 := Fo13.out.below hb'; clear Fo13; have Fo13 := Lib.hid rFo13; clear rFo13
  have rFo14 := Fo14.out.below hb'; clear Fo14; have Fo14 := Lib.hid rFo14; clear rFo14
  have rFo15 := Fo15.out.below hb'; clear Fo15; have Fo15 := Lib.hid rFo15; clear rFo15
  have rFo16 := Fo16.out.below hb'; clear Fo16; have Fo16 := Lib.hid rFo16; clear rFo16
  have rB := below_chain B.out (by omega) hb'; clear B; have B := Lib.hid rB; clear rB
  clear hb hb'
  go_wp2
  go_ret
  exact ⟨rfl, B.out⟩
end Go.Proofs.YtebjpmmgdkepjaaGreatDoor
/-
  How the laws' arguments read: slices of whatever elements, structs of numbers and slices.
-/
namespace Go.Proofs.YtebjpmmgdkepjaaGreatDoor
open Go.ChangeShapes Go.WideShapes Go.ChangeAt Go.RowKit Go.Joins

theorem list_of {α : Type} {p : Nat → α → Prop} : ∀ (n : Nat), (∀ i, i < n → ∃ x, p i x) → ∃ xs : List α, xs.length = n ∧ ∀ i x, xs[i]? = some x → p i x
  | 0, _ => ⟨[], rfl, fun i x h => by simp at h⟩
  | n + 1, h => by
    obtain ⟨xs, hl, hx⟩ := list_of n (fun i hi => h i (by omega))
    obtain ⟨x, hp⟩ := h n (by omega)
    refine ⟨xs ++ [x], by simp [hl], fun i y hy => ?_⟩
    rcases Nat.lt_or_ge i n with hi | hi
    · rw [List.getElem?_append_left (by omega)] at hy; exact hx i y hy
    · rw [List.getElem?_append_right (by omega)] at hy
      have : i - xs.length = 0 := by
        have := (List.getElem?_eq_some_iff.1 hy).1
        simp at this; exact this
      rw [this] at hy
      simp at hy; subst hy
      rw [show i = n by omega]; exact hp

section
variable {H : Type} {enc : TypeId × Value → H} {W : World} {fuel base : Nat} {y : DataW H × List MemPlace} {v : Value} {d : DataW H} {p : List MemPlace}

/-- a slice of elements of k cells each -/
theorem open_rows {α : Type} (f : α → List Value) (k : Nat) (hk : 0 < k) (hf : ∀ x, (f x).length = k) (G : α → Prop) {t e : TypeId} (ht : Tryz.prog.underlying t = some (.slice e)) (hc : Tryz.prog.cellsOf e = k)
    (hel : ∀ n cs z, DataW.trod enc Tryz.prog W 0 (fun _ => true) true n e cs = some z → cs.length = k → ∃ x, cs = f x ∧ G x) {c : Value} (h : DataW.trod enc Tryz.prog W 0 (fun _ => true) true fuel t [c] = some y) :
    ∃ (A : Option Addr) (n cp : Nat) (xs : List α), c = .slice A n cp ∧ Rd W A (n * k) (xs.flatMap f) ∧ xs.length = n ∧ n ≤ 9223372036854775807 ∧ ∀ x ∈ xs, G x := by
  rcases Go.Deep.open_slice ht h with ⟨hcs, _⟩ | ⟨a, len, cap, m, n, D, Pl, hcs, _, hl, hm, hmm, _, hx⟩
  · injection hcs with hcs
    exact ⟨none, 0, 0, [], hcs, by rw [Nat.zero_mul]; exact Rd.nil, rfl, by omega, fun x hx => by cases hx⟩
  · injection hcs with hcs
    simp only [if_true] at hmm
    subst hmm
    rw [hc] at hx
    obtain ⟨xs, hxl, hxs⟩ := list_of (p := fun i x => (∀ j, j < k → W.cell? (a.add (i * k + j)) = (f x)[j]?) ∧ G x) len (fun i hi => by
      obtain ⟨cs', h1, h2⟩ := hx i (by omega)
      obtain ⟨_, hlen, hcell⟩ := World.cells?_some h1
      obtain ⟨x, e, hg⟩ := hel _ _ _ h2 hlen
      refine ⟨x, fun j hj => ?_, hg⟩
      rw [← add_add, hcell j hj, e])
    unfold maxLen at hm
    refine ⟨some a, len, m, xs, hcs, ⟨by rw [flatX_len f k hf, hxl], fun h0 => ⟨a, rfl, ?_, fun j u hj => ?_⟩⟩, hxl, by omega, fun x hx => ?_⟩
    · have hl0 : 0 < len := by
        rcases Nat.eq_zero_or_pos len with h | h
        · rw [h, Nat.zero_mul] at h0; omega
        · exact h
      have hx0 : xs[0]? = some xs[0] := List.getElem?_eq_getElem (by omega)
      have := (hxs 0 _ hx0).1 0 hk
      rw [List.getElem?_eq_getElem (by rw [hf]; exact hk)] at this
      have := World.block_lt_of_cell? W _ this
      rwa [block_add] at this
    · have hjl : j < len * k := by
        have := (List.getElem?_eq_some_iff.1 hj).1
        rwa [flatX_len f k hf, hxl] at this
      have hq : j / k < len := Nat.div_lt_of_lt_mul (by rwa [Nat.mul_comm])
      have hxq : xs[j / k]? = some xs[j / k] := List.getElem?_eq_getElem (by omega)
      have hjm : j % k < k := Nat.mod_lt _ hk
      have e : j = j / k * k + j % k := by rw [Nat.mul_comm]; exact (Nat.div_add_mod j k).symm
      rw [e, flatX_at f k hf xs (j / k) (j % k) _ hxq hjm] at hj
      rw [e, (hxs _ _ hxq).1 _ hjm]
      exact hj
    · obtain ⟨i, hi⟩ := List.mem_iff_getElem?.1 hx
      exact (hxs i x hi).2

end
end Go.Proofs.YtebjpmmgdkepjaaGreatDoor
/-
  How a law's argument of type []Func reads.
-/
namespace Go.Proofs.YtebjpmmgdkepjaaGreatDoor
open Go.ChangeShapes Go.WideShapes Go.ChangeAt Go.RowKit Go.Joins

section
variable {H : Type} {enc : TypeId × Value → H} {W : World} {base : Nat} {v : Value} {d : DataW H} {p : List MemPlace}
set_option maxRecDepth 100000 in
theorem open_FuncS (hv : Value.okWide Tryz.prog W .any base 42 v) (h : DataW.Trod enc Tryz.prog W 0 (fun _ => true) true 42 v d p) :
    ∃ A n cp xs, v = .slice A n cp ∧ Rd3 W A n xs ∧ n ≤ 9223372036854775807 := by
  obtain ⟨a0, l0, c0, rfl⟩ := okWide_slice Tryz.underlying42 hv
  obtain ⟨fuel, hf⟩ := h
  have hf' : DataW.trod enc Tryz.prog W 0 (fun _ => true) true fuel 42 [.slice a0 l0 c0] = some (d, p) := by simpa [Value.cells] using hf
  obtain ⟨A, n, cp, xs, e, hr, _, hn, _⟩ := open_rows enc3 3 (by omega) enc3_len (fun _ => True) Tryz.underlying42 (by kernel_rfl) (fun n cs z hz hl => by
    obtain ⟨y0, y1, y2, m, _, _, h0, h1, h2⟩ := Go.Deep.trod_struct3 Tryz.underlying79 hz
    match cs, hl with
    | [c0, c1, c2], _ =>
      have k1 : Tryz.prog.cellsOf 2 = 1 := by kernel_rfl
      simp [k1] at h0 h1 h2
      obtain ⟨a, rfl, _⟩ := trod_I64 h0
      obtain ⟨b, rfl, _⟩ := trod_I64 h1
      obtain ⟨c, rfl, _⟩ := trod_I64 h2
      exact ⟨(a, b, c), rfl, trivial⟩) hf'
  exact ⟨A, n, cp, xs, e, hr, hn⟩
end
end Go.Proofs.YtebjpmmgdkepjaaGreatDoor
