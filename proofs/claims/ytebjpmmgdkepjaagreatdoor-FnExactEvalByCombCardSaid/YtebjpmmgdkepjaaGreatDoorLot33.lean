/-
  Parts of the proof, one behind the other: contracts of the functions that the law reaches, and plain laws.
-/
import Derived.Test.YtebjpmmgdkepjaaGreatDoorProg
import Derived.ProofKit
import Derived.OpenShut
import Derived.Lib.SmallJoins
import Derived.Test.YtebjpmmgdkepjaaGreatDoorLot01
import Derived.Test.YtebjpmmgdkepjaaGreatDoorLot08
import Derived.Test.YtebjpmmgdkepjaaGreatDoorLot21
import Derived.Test.YtebjpmmgdkepjaaGreatDoorLot22
import Derived.Test.YtebjpmmgdkepjaaGreatDoorLot24
import Derived.Test.YtebjpmmgdkepjaaGreatDoorLot31
import Derived.Test.YtebjpmmgdkepjaaGreatDoorLot32
/-
  Functions as terms: the reference's evaluation of a function by its lambda term.
-/
namespace Go.Proofs.YtebjpmmgdkepjaaGreatDoor
open Go.RowKit
open FTr

set_option maxHeartbeats 4000000 in
set_option maxRecDepth 100000 in
theorem l18Applied_c (t : FTr) (ad : Addr) (n cp : Nat) (G : Option Addr) (m mc : Nat) (ys : List Int) (o : Option LT) (w : World) (ho : okT t = true) (hl : (flat t).length ≤ 60) (h : Rd3 w (some ad) n (flat t)) (hnc : n ≤ cp) (hG : RdI w G m ys) (ha : allB 0 150 ys = true) (hm : m ≤ 4) (hoo : apO t ys = o) :
    Calls Tryz.prog 44 #[.slice (some ad) n cp, .slice G m mc] w (TrS o w) := by
  have HC := Lib.hid (fun (w' : World) (hb : Below w.heap.size w w') => l18Term_c t ho hl ad n cp w' (Rd3.below h hb) hnc)
  have H := Lib.hid hG; have HA := Lib.hid ha; have HOO := Lib.hid hoo; have HL := Lib.hid hG.len
  clear ho hl h hG ha hoo
  go_enter Tryz.func44, Tryz.ntmps44
  go_wp2_with fail
  go_loopw [6, 7] (fun ov iv wr => ∃ (k oc : Nat) (O : Option Addr) (ps : List Tm), k ≤ m ∧ iv = .int .i64 k ∧ ov = .slice O k oc ∧ Hid (LmS wr w.heap.size 25 O k oc ps) ∧ Hid (ps.map Tm.t = (numsL ys).take k) ∧ Below w.heap.size w wr) (fun _ iv _ => m - (intOf iv).toNat)
  case atStart => exact ⟨0, 0, _, [], by omega, rfl, rfl, LmS.nil (Own.lit (Nat.le_refl _)), rfl, below_size.alloc (Nat.le_refl _) _⟩
  case round =>
    obtain ⟨k, oc, O, ps, hk, rfl, rfl, hO, hp, hb⟩ := hrel
    have HB := Lib.hid hb
    have hwz := hb.size
    by_cases hlt : k < m
    · obtain ⟨pd, y, rfl, _, hy, hcy⟩ := (RdI.below H.out hb).at_ hlt
      have hyb := allB_mem HA.out y (List.mem_of_getElem? hy)
      obtain ⟨v, rfl⟩ : ∃ v : Nat, y = (v : Int) := ⟨y.toNat, by omega⟩
      have HX := Lib.hid (show (numsL ys).take (k + 1) = (numsL ys).take k ++ [numLm v] by
        refine take_at ?_
        rw [numsL, List.getElem?_map, hy]; rfl)
      have HN := Lib.hid (fun w => l12Numeral_c v w (by omega))
      obtain ⟨n2, hn2⟩ : ∃ n2, 2 * v + 3 = n2 := ⟨_, rfl⟩
      rw [hn2] at HN
      have hn2b : n2 ≤ 303 := by omega
      clear hy hb hn2 hyb
      go_wp2_with fail
      refine (HN.out _).mono ?_
      rintro e w4 ⟨A4, c4, rfl, hl4, hw4, hc4, hb4⟩
      have D4 := Lib.hid hb4; have W4 := Lib.hid hw4; have z4 := hb4.size; have E4 := Lib.hid (HB.out.trans (hb4.mono hwz)); have HL4 := Lib.hid hl4
      clear hl4 hw4 hc4 hb4
      go_wp2_with (at_builtin; refine wp_app1 (by rfl) _ _ 32 25 (.slice none 0 0) 24 (by rfl) Tryz.underlying32 info_sLam rfl w.heap.size O k oc (ps.map Tm.hd) (by rfl) (by exact (hO.out.own.keep D4.out).alloc _) w4.heap.size (.slice A4 n2 c4) (by rfl) (by exact new_cell _ _ _ 0) rfl (by omega) (by omega) (by simp; omega) ?_; intro g' cap w5 own5 hb5 hk5 hg5 hz5; have L5 := Lib.hid (LmS.push hO.out hwz (w1 := w4.alloc (.cells #[.slice A4 n2 c4] 25)) (p := ⟨A4, c4, numLm v⟩) (D4.out.alloc z4 _) (by show Wr _ _ _ A4 ((numLm v).length * 2) _; rw [HL4.out]; exact (W4.out.below (below_size.alloc (Nat.le_refl _) _)).wider (Nat.le_refl _) (by simp)) (by rw [List.map_append]; show Own _ _ _ _ _ _ _ (_ ++ [.slice A4 (numLm v).length c4]); rw [HL4.out]; exact own5) hk5 hg5 hz5); have E5 := Lib.hid ((E4.out.alloc (by omega) _).trans hb5); clear own5 hb5 hk5 hg5 hz5)
      go_roundw
      case rel => exact ⟨k + 1, cap, some ⟨g', 0, none⟩, ps ++ [(⟨A4, c4, numLm v⟩ : Tm)], by omega, by go_num, rfl, L5.out, by unfold Hid; rw [List.map_append, hp.out, HX.out]; rfl, E5.out⟩
      case measure => simp [intOf]; omega
    · obtain rfl : k = m := by omega
      have HPS := Lib.hid (show ps.map Tm.t = numsL ys by rw [hp.out, List.take_of_length_le (by rw [numsL_len, HL.out]; exact Nat.le_refl _)])
      have V := Lib.hid hO.out.rdV
      clear hb hp
      obtain ⟨tr, htr⟩ : ∃ tr, trmO t = tr := ⟨_, rfl⟩
      rw [htr] at HC
      have HTR := Lib.hid htr
      clear htr
      cases tr with
      | none =>
        have HG0 := Lib.hid (show none = o by rw [← HOO.out, apO_no HTR.out])
        go_wp2_with fail
        refine (HC.out _ HB.out).mono ?_
        rintro e w1 ⟨⟨v, rfl⟩, hb1⟩
        have B1 := Lib.hid (HB.out.trans (hb1.mono hwz))
        clear hb1
        go_wp2_with fail
        refine bodyPost_ret (v := .tuple #[.slice none 0 0, .bool false]) (by simp [results, Tryz.results44, go_sem]) rfl ?_
        rw [← HG0.out]
        exact TrS.no B1.out
      | some u =>
        have hul : u.length ≤ 400 := (validL_end (trmO_valid HTR.out)).2.2
        obtain ⟨W, hW⟩ : ∃ W, appLm u (numsL ys) = W := ⟨_, rfl⟩
        obtain ⟨q, hq⟩ : ∃ q, validL W = q := ⟨_, rfl⟩
        have HG0 := Lib.hid (show (if q = true then some W else none) = o by rw [← HOO.out, apO_yes HTR.out, hW, hq])
        have hVb : W.length ≤ 3000 := by
          have h1 := numsL_flat HA.out
          have h2 : ys.length * 303 ≤ 4 * 303 := Nat.mul_le_mul_right _ (by rw [HL.out]; exact hm)
          rw [← hW, appLm_len, numsL_len, HL.out]; omega
        have HW := Lib.hid hW; have HQ := Lib.hid hq
        clear hW hq
        go_wp2_with fail
        refine (HC.out _ HB.out).mono ?_
        rintro e w1 ⟨⟨A1, c1, rfl, hw1, hc1⟩, hb1⟩
        have B1 := Lib.hid (HB.out.trans (hb1.mono hwz)); have R1 := Lib.hid (show Rd2 w1 A1 u.length u from hw1.rd); have V1 := Lib.hid (V.out.below hb1); have hz1 := B1.out.size
        clear hw1 hc1 hb1
        go_wp2_with fail
        refine (l12ApplyT_c A1 u.length c1 u O k oc W.length ps W _ R1.out V1.out (by omega) (by rw [HPS.out]; exact HW.out) rfl (by omega)).mono ?_
        rintro e w2 ⟨A2, c2, rfl, _, hw2, hc2, hb2⟩
        have B2 := Lib.hid (B1.out.trans (hb2.mono hz1)); have W2 := Lib.hid (hw2.wider (lo' := w.heap.size) hz1 (Nat.le_refl _)); have C2 := Lib.hid hc2; have hz2 := B2.out.size
        clear hw2 hc2 hb2
        go_wp2_with fail
        refine (l12Is_c A2 W.length c2 W q _ W2.out.rd (by omega) HQ.out).mono ?_
        rintro e w3 ⟨rfl, hb3⟩
        have B3 := Lib.hid (B2.out.trans (hb3.mono hz2)); have W3 := Lib.hid ((W2.out.below hb3).wider (Nat.le_refl _) hb3.size)
        clear hb3
        go_wp2_with fail
        refine bodyPost_ret (v := .tuple #[.slice A2 W.length c2, .bool q]) (by simp [results, Tryz.results44, go_sem]) rfl ?_
        rw [← HG0.out]
        cases q
        · exact TrS.no B3.out
        · exact TrS.yes W3.out C2.out B3.out
set_option maxHeartbeats 4000000 in
set_option maxRecDepth 100000 in
theorem sEvalByLam_c (A : Option Addr) (n c : Nat) (xs : List Nd3) (A' : Option Addr) (n' c' : Nat) (ys : List Int) (b : Int) (w : World) (h : Rd3 w A n xs) (h' : RdI w A' n' ys) (hn : n ≤ 1000000000) (hn' : n' ≤ 1000000000) (hnc : n ≤ c) :
    Calls Tryz.prog 16 #[.slice A n c, .slice A' n' c', .int .i64 b] w fun e w' => e = .returned (.tuple #[.int .i64 (evF xs ys b).1, .int .i64 (evF xs ys b).2.1, .int .i64 (evF xs ys b).2.2]) ∧ Below w.heap.size w w' := by
  obtain ⟨R, hR⟩ : ∃ R, evF xs ys b = R := ⟨_, rfl⟩
  rw [hR]
  cases hv : validF xs with
  | false =>
    have HR := Lib.hid (show ((0, 0, 1) : Int × Int × Int) = R by rw [← hR, evF_bad hv])
    have HC := Lib.hid (l11Is_c A n c xs false w h hn hv)
    clear h h' hR hv
    go_enter Tryz.func16, Tryz.ntmps16
    go_wp2_with fail
    refine HC.out.mono ?_
    rintro e w1 ⟨rfl, hb1⟩
    have B1 := Lib.hid hb1
    clear hb1
    go_wp2_with fail
    go_ret3
    rw [← HR.out]
    exact ⟨rfl, B1.out⟩
  | true =>
    obtain ⟨h60, t, hok, rfl⟩ := validF_iff.1 hv
    have hp := flat_pos t
    obtain ⟨ad, rfl, _⟩ := h.2 (by rw [h.len] at hp; omega)
    have HI := Lib.hid (l11Is_c (some ad) n c (flat t) true w h hn hv)
    rw [evF_flat hok h60] at hR
    obtain ⟨x, hx0, hxa⟩ : ∃ x, (flat t)[0]? = some x ∧ ar t = x.2.1 := by
      obtain ⟨x, ts⟩ := t
      exact ⟨x, by rw [flat_mk]; rfl, rfl⟩
    obtain ⟨qb, hqb⟩ : ∃ q, inB b 1 20000 = q := ⟨_, rfl⟩
    obtain ⟨qa, hqa⟩ : ∃ q, argsB x.2.1 ys = q := ⟨_, rfl⟩
    have HBU := Lib.hid (fun (w : World) => l05BudgetC_b b qb hqb w)
    have HAR := Lib.hid (fun (w' : World) (hb : Below w.heap.size w w') => l18Args_c ad n c (flat t) x A' n' c' ys qa w' (Rd3.below h hb) hx0 (RdI.below h' hb) hn' hqa)
    have hq : (inB b 1 20000 && argsB (ar t) ys) = (qb && qa) := by rw [hqb, hxa, hqa]
    by_cases hqq : (qb && qa) = true
    · obtain ⟨hq1, hq2⟩ := Bool.and_eq_true_iff.1 hqq
      subst hq1 hq2
      have hall : allB 0 150 ys = true := by rw [argsB, Bool.and_eq_true] at hqa; exact hqa.2
      have har : (ys.length : Int) = x.2.1 := by rw [argsB, Bool.and_eq_true, decide_eq_true_eq] at hqa; exact hqa.1
      have hn4 : n' ≤ 4 := by
        obtain ⟨y, ts⟩ := t
        have h9 := (nodeF_ar (okT_iff.1 hok).node).2.1
        rw [flat_mk] at hx0
        injection hx0 with hx0; subst hx0
        rw [h'.len] at har; omega
      have hb0 := inB_t hqb
      obtain ⟨k, rfl⟩ : ∃ k : Nat, b = (k : Int) := ⟨b.toNat, by omega⟩
      obtain ⟨o, hoo⟩ : ∃ o, apO t ys = o := ⟨_, rfl⟩
      have HAP := Lib.hid (fun (w' : World) (hb : Below w.heap.size w w') => l18Applied_c t ad n c A' n' c' ys o w' hok h60 (Rd3.below h hb) hnc (RdI.below h' hb) hall hn4 hoo)
      have HOO := Lib.hid hoo; have HQ := Lib.hid (show (inB (k : Int) 1 20000 && argsB (ar t) ys) = true from hq); have HR0 := Lib.hid hR
      clear h h' hR hv hok h60 hp hq hqq hqa hqb hall har hn4 hoo hx0 hxa
      go_enter Tryz.func16, Tryz.ntmps16
      go_wp2_with fail
      refine HI.out.mono ?_
      rintro e w1 ⟨rfl, hb1⟩
      have B1 := Lib.hid hb1; have hz1 := hb1.size
      clear hb1
      go_wp2_with fail
      refine (HBU.out _).mono ?_
      rintro e w' ⟨rfl, rfl⟩
      go_wp2_with fail
      refine (HAR.out _ B1.out).mono ?_
      rintro e w' ⟨rfl, rfl⟩
      go_wp2_with fail
      refine (HAP.out _ B1.out).mono ?_
      cases o with
      | none =>
        have HR := Lib.hid (show ((0, 0, 5) : Int × Int × Int) = R by rw [← HR0.out, evT_no HQ.out HOO.out])
        rintro e w2 ⟨⟨v, rfl⟩, hb2⟩
        have B2 := Lib.hid (B1.out.trans (hb2.mono hz1))
        clear hb2
        go_wp2_with fail
        go_ret3
        rw [← HR.out]
        exact ⟨rfl, B2.out⟩
      | some u =>
        rintro e w2 ⟨⟨A2, c2, rfl, hw2, hc2⟩, hb2⟩
        have B2 := Lib.hid (B1.out.trans (hb2.mono hz1)); have R2 := Lib.hid (show Rd2 w2 A2 u.length u from hw2.rd); have hz2 := B2.out.size
        have hV := apO_valid HOO.out
        obtain ⟨X, hX⟩ : ∃ X, runL k u 0 = X := ⟨_, rfl⟩
        have HR := Lib.hid (show lamA X = R by rw [← HR0.out, evT_yes HQ.out HOO.out, Int.toNat_natCast, hX])
        have HRC := Lib.hid (l12Run_c A2 u.length c2 u k X w2 R2.out hV (by omega) hX)
        have HVX := Lib.hid (show ∀ v k' q, X = some (v, k', q) → v.length ≤ 400 ∧ k' ≤ 20000 from fun v k' q e => by
          have h9 := runL_valid hV (by rw [hX, e])
          exact ⟨(validL_end h9.1).2.2, by omega⟩)
        clear hw2 hc2 hb2 hX
        go_wp2_with fail
        refine HRC.out.mono ?_
        cases X with
        | none =>
          rintro e w3 ⟨rfl, hb3⟩
          have B3 := Lib.hid (B2.out.trans (hb3.mono hz2))
          clear hb3
          go_wp2_with fail
          go_ret3
          rw [← HR.out]
          exact ⟨rfl, B3.out⟩
        | some vkq =>
          obtain ⟨v, k', q⟩ := vkq
          obtain ⟨hvv, hk⟩ := HVX.out v k' q rfl
          rintro e w3 ⟨A3, n3, c3, rfl, hw3, hn3, _, hb3⟩
          have B3 := Lib.hid (B2.out.trans (hb3.mono hz2)); have R3 := Lib.hid (show Rd2 w3 A3 n3 v from hw3.rd); have hz3 := B3.out.size
          have hn3b : n3 ≤ 400 := by omega
          clear hb3 hw3 hvv hn3
          cases q with
          | false =>
            go_wp2_with fail
            go_ret3
            rw [← HR.out]
            exact ⟨rfl, B3.out⟩
          | true =>
            obtain ⟨z, hz⟩ : ∃ z, nvL v = z := ⟨_, rfl⟩
            have HNV := Lib.hid (l12Value_c A3 n3 c3 v w3 R3.out (by omega))
            rw [hz] at HNV
            have HR2 := Lib.hid (show (if z < 0 then ((0, 0, 3) : Int × Int × Int) else (z, (k' : Int), 0)) = R by rw [← HR.out, lamA, if_pos rfl, hz])
            clear hz
            by_cases hz0 : z < 0
            · have HR3 := Lib.hid (show ((0, 0, 3) : Int × Int × Int) = R by rw [← HR2.out, if_pos hz0])
              go_wp2_with fail
              refine HNV.out.mono ?_
              rintro e w4 ⟨rfl, hb4⟩
              have B4 := Lib.hid (B3.out.trans (hb4.mono hz3))
              clear hb4
              go_wp2_with fail
              go_ret3
              rw [← HR3.out]
              exact ⟨rfl, B4.out⟩
            · have HR3 := Lib.hid (show ((z, (k' : Int), 0) : Int × Int × Int) = R by rw [← HR2.out, if_neg hz0])
              go_wp2_with fail
              refine HNV.out.mono ?_
              rintro e w4 ⟨rfl, hb4⟩
              have B4 := Lib.hid (B3.out.trans (hb4.mono hz3))
              clear hb4
              go_wp2_with fail
              go_ret3
              rw [← HR3.out]
              exact ⟨rfl, B4.out⟩
    · have hqf : (qb && qa) = false := by cases h9 : (qb && qa) with | false => rfl | true => exact absurd h9 hqq
      have HR := Lib.hid (show ((0, 0, 2) : Int × Int × Int) = R by rw [← hR, evT_bad (by rw [hq, hqf])])
      have HQF := Lib.hid hqf
      clear h h' hR hv hok h60 hp hq hqq hqa hqb hqf hx0 hxa
      go_enter Tryz.func16, Tryz.ntmps16
      go_wp2_with fail
      refine HI.out.mono ?_
      rintro e w1 ⟨rfl, hb1⟩
      have B1 := Lib.hid hb1; have hz1 := hb1.size
      clear hb1
      cases qb with
      | false =>
        go_wp2_with fail
        refine (HBU.out _).mono ?_
        rintro e w' ⟨rfl, rfl⟩
        go_wp2_with fail
        go_ret3
        rw [← HR.out]
        exact ⟨rfl, B1.out⟩
      | true =>
        have hqa0 : qa = false := HQF.out
        subst hqa0
        go_wp2_with fail
        refine (HBU.out _).mono ?_
        rintro e w' ⟨rfl, rfl⟩
        go_wp2_with fail
        refine (HAR.out _ B1.out).mono ?_
        rintro e w' ⟨rfl, rfl⟩
        go_wp2_with fail
        go_ret3
        rw [← HR.out]
        exact ⟨rfl, B1.out⟩
end Go.Proofs.YtebjpmmgdkepjaaGreatDoor
/-
  Functions as combinator terms: the reference's conversion and evaluation.
-/
namespace Go.Proofs.YtebjpmmgdkepjaaGreatDoor
open Go.RowKit
open FTr

theorem Cw.ren {c : LT} (h : Cw c) : Cw (c.map rnC) := by
  induction h with
  | @atom x hx =>
    refine .atom (x := rnC x) ?_
    rw [rnC_kind]
    unfold rnC
    split
    · rename_i h4; exact .inr (.inr (.inr h4))
    · exact hx
  | @app a b _ _ ih1 ih2 =>
    have e : (((0, 0) :: (a ++ b) : LT)).map rnC = (0, 0) :: (a.map rnC ++ b.map rnC) := by simp [rnC]
    rw [e]; exact .app ih1 ih2
theorem LcX.end_ {d : Nat} {t : LT} {o : Option LT} (h : LcX d t o) : ∀ (r : LT) (n : Nat), endP manyL (t ++ r) (n + 1) = (endP manyL r n).map (t.length + ·) := by
  induction h with
  | @var d i _ _ =>
    intro r n
    show endP manyL ((0, i) :: r) (n + 1) = _
    rw [endP_cons]
    show (endP manyL r n).map _ = _
    cases endP manyL r n <;> simp [Nat.add_comm]
  | @abs d t o _ ih =>
    intro r n
    show endP manyL ((1, 0) :: (t ++ r)) (n + 1) = _
    rw [endP_cons]
    show (endP manyL (t ++ r) (n + 1)).map _ = _
    rw [ih]
    cases endP manyL r n <;> simp
    omega
  | @app d a b o1 o2 _ _ ih1 ih2 =>
    intro r n
    have e : ((2, 0) :: (a ++ b)) ++ r = (2, 0) :: (a ++ (b ++ r)) := by simp
    rw [e, endP_cons]
    show (endP manyL (a ++ (b ++ r)) (n + 1 + 1)).map _ = _
    rw [ih1, ih2]
    cases endP manyL r n <;> simp
    omega
def rnO (o : Option LT) : Option LT := o.map (List.map rnC)
set_option maxHeartbeats 8000000 in
set_option maxRecDepth 100000 in
theorem l18Comb_c {d : Nat} {u : LT} {o : Option LT} (hx : LcX d u o) : ∀ (A : Option Addr) (n cp : Nat) (w : World), Rd2 w A n u → n ≤ cp → n ≤ 400 → d + n ≤ 1000 →
    Calls Tryz.prog 51 #[.slice A n cp, .int .i64 d, .bool true] w (TrS (rnO o) w) := by
  induction hx with
  | @var d i h1 h2 =>
    intro A n cp w h hcp h400 hdn
    have hn : 1 = n := h.len
    subst hn
    obtain ⟨ad, x', rfl, _, hx', hc0, hc1⟩ := h.at_ (k := 0) (by omega)
    rw [List.getElem?_cons_zero] at hx'; injection hx' with hx'; subst hx'
    rw [Nat.zero_mul, addrZm] at hc0 hc1
    simp only at hc0 hc1
    have C1 := Lib.hid hc1
    have e0 : (w.alloc (.cells #[] 100)).cell? ad = some (i64 0) := keepa _ hc0
    have e1 : (w.alloc (.cells #[] 100)).cell? ⟨ad.block, ad.off + 1, none⟩ = some (i64 i) := keepa _ hc1
    obtain ⟨v, hv⟩ : ∃ v : Int, 400 + (d : Int) - 1 - i = v := ⟨_, rfl⟩
    have v1 : IntKind.i64.wrap (400 + (d : Int) - 1 - i) = v := by rw [hv]; exact IntWalk.i64_in _ (by omega)
    have HO := Lib.hid (show rnO (some [(4, i - (d : Int))]) = some [(4, v)] by rw [← hv]; simp [rnO, rnC]; omega)
    rw [HO.out]
    clear h hc0 hc1 hv
    have O1 := Lib.hid (show Own (w.alloc (.cells #[] 100)) w.heap.size 100 2 (some ⟨w.heap.size, 0, none⟩) 0 0 [] from Own.litK (Nat.le_refl _))
    have B1 := Lib.hid (show Below w.heap.size w (w.alloc (.cells #[] 100)) from below_size.alloc (Nat.le_refl _) _)
    have hz1 := B1.out.size
    have L1 := Lib.hid (show Rd2 ((w.alloc (.cells #[] 100)).alloc (.cells #[.int .i64 4, .int .i64 v] 100)) (some ⟨w.heap.size + 1, 0, none⟩) 1 [(4, v)] by
      have h9 := Rd2.lit (w := w.alloc (.cells #[] 100)) (e := 100) (cs := #[.int .i64 4, .int .i64 v]) (xs := [(4, v)]) (n := 1) rfl rfl
      rw [World.size_alloc] at h9; exact h9)
    have B2 := Lib.hid (B1.out.alloc hz1 (.cells #[.int .i64 4, .int .i64 v] 100))
    go_enter Tryz.func51, Tryz.ntmps51
    go_wp2_with (at_builtin; refine wp_appComb (by rfl) _ _ (by rfl) w.heap.size (some ⟨w.heap.size, 0, none⟩) 0 0 _ (by rfl) (by exact O1.out.alloc _) (some ⟨w.heap.size + 1, 0, none⟩) 1 1 [(4, v)] (by rfl) (by exact L1.out) (by omega) B2.out.size ?_; intro A6 c6 w6 own6 hb6 hk6 hg6 hz6; rw [Nat.zero_add] at own6; have O6 := Lib.hid own6; have B6 := Lib.hid (B2.out.trans hb6); clear own6 hb6 hk6 hg6 hz6)
    go_ret2
    exact TrS.yes (T := [(4, v)]) (by have h9 := O6.out.wrK; rw [List.nil_append] at h9; exact h9) O6.out.cap B6.out
  | @abs d t o hx ih =>
    intro A n cp w h hcp h400 hdn
    have hpt := hx.pos
    have hn : t.length + 1 = n := by have := h.len; rwa [List.length_cons] at this
    obtain ⟨ad, x', rfl, hab, hx', hc0, hc1⟩ := h.at_ (k := 0) (by omega)
    rw [List.getElem?_cons_zero] at hx'; injection hx' with hx'; subst hx'
    rw [Nat.zero_mul, addrZm] at hc0
    simp only at hc0
    have e0 : (w.alloc (.cells #[] 100)).cell? ad = some (i64 1) := keepa _ hc0
    have B1 := Lib.hid (show Below w.heap.size w (w.alloc (.cells #[] 100)) from below_size.alloc (Nat.le_refl _) _)
    have hz1 := B1.out.size
    have RA := Lib.hid (show Rd2 (w.alloc (.cells #[] 100)) (some ⟨ad.block, ad.off + 2, none⟩) (n - 1) t by
      have h9 := (h.below B1.out).part 1 t.length (by omega)
      rw [List.drop_succ_cons, List.drop_zero, List.take_of_length_le (Nat.le_refl _)] at h9
      have e9 : ad.add (1 * 2) = ⟨ad.block, ad.off + 2, none⟩ := by rw [Addr.add, if_neg (by omega)]
      rw [e9] at h9
      rw [show n - 1 = t.length by omega]; exact h9)
    have HI := Lib.hid (show ∀ di : Int, di = ((d + 1 : Nat) : Int) → Calls Tryz.prog 51 #[.slice (some ⟨ad.block, ad.off + 2, none⟩) (n - 1) (cp - 1), .int .i64 di, .bool true] (w.alloc (.cells #[] 100)) (TrS (rnO o) (w.alloc (.cells #[] 100))) from fun di e => by
      subst e; exact ih _ (n - 1) (cp - 1) _ RA.out (by omega) (by omega) (by omega))
    have HCW := Lib.hid hx.cw
    have hcp2 : 1 < cp := by omega
    have hn2 : 1 ≤ n := by omega
    clear h ih hc0 hc1 hab hx hpt hn
    go_enter Tryz.func51, Tryz.ntmps51
    go_wp2_with fail
    refine (HI.out _ (by push_cast; rfl)).mono ?_
    cases o with
    | none =>
      rintro e w2 ⟨⟨v2, rfl⟩, hb2⟩
      have B2 := Lib.hid (B1.out.trans (hb2.mono hz1))
      clear hb2
      go_wp2_with fail
      go_ret2
      exact TrS.no B2.out
    | some c =>
      obtain ⟨g1, g2, _⟩ := HCW.out c rfl
      rintro e w2 ⟨⟨A2, c2, rfl, hw2, hc2⟩, hb2⟩
      have hlen : (c.map rnC).length = c.length := List.length_map _
      obtain ⟨c', hc'⟩ : ∃ c', c.map rnC = c' := ⟨_, rfl⟩
      have g1' : Cw c' := by rw [← hc']; exact g1.ren
      have g2' : c'.length ≤ 400 := by rw [← hc', hlen]; exact g2
      have B2 := Lib.hid (B1.out.trans (hb2.mono hz1)); have hz2 := B2.out.size
      obtain ⟨U, hU⟩ : ∃ U, absC c'.length (400 + (d : Int)) c' = U := ⟨_, rfl⟩
      have hUr : U = (absC c.length (-1 - (d : Int)) c).map rnC := by
        rw [← hU, ← hc', List.length_map, ← absC_rn]; congr 1; omega
      have HO := Lib.hid (show rnO (absS d (some c)) = if U.length ≤ 400 then some U else none by
        have h9 : U.length = (absC c.length (-1 - (d : Int)) c).length := by rw [hUr, List.length_map]
        rw [absS]
        by_cases h4 : U.length ≤ 400
        · rw [if_pos h4, if_pos (by omega)]; show some _ = _; rw [← hUr]
        · rw [if_neg h4, if_neg (by omega)]; rfl)
      have hUl : U.length ≤ 1200 := by rw [← hU]; have := absC_len (k := 400 + (d : Int)) g1' c'.length (Nat.le_refl _); omega
      have HW2 := hw2; have HC2 := hc2
      rw [hc'] at HW2 HC2
      have R2 := Lib.hid (show Rd2 w2 A2 c'.length c' from HW2.rd)
      have HAB := Lib.hid (fun (ki : Int) (e : ki = 400 + (d : Int)) => show Calls Tryz.prog 88 #[.slice A2 c'.length c2, .int .i64 ki, .bool true] w2 (TmOut U U.length w2) by subst e; rw [← hU]; exact l18Abstract_c _ g1' g2' c'.length A2 c'.length c2 w2 R2.out HC2 (Nat.le_refl _))
      rw [hc']
      clear hw2 hc2 hb2 hU hUr hlen hc' HW2 HC2 HI RA
      go_wp2_with fail
      refine (HAB.out _ rfl).mono ?_
      rintro e w3 ⟨A3, c3, rfl, _, hw3, hc3, hb3⟩
      have B3 := Lib.hid (B2.out.trans (hb3.mono hz2)); have W3 := Lib.hid (hw3.wider (lo' := w.heap.size) hz2 (Nat.le_refl _)); have C3 := Lib.hid hc3
      clear hw3 hc3 hb3
      by_cases h4 : U.length ≤ 400
      · have gl : decide ((U.length : Int) ≤ 400) = true := decide_eq_true (by omega)
        go_wp2_with fail
        go_ret2
        rw [HO.out, if_pos h4]
        exact TrS.yes W3.out C3.out B3.out
      · have gl : decide ((U.length : Int) ≤ 400) = false := decide_eq_false (by omega)
        go_wp2_with fail
        go_ret2
        rw [HO.out, if_neg h4]
        exact TrS.no B3.out
  | @app d a b o1 o2 hx1 hx2 ih1 ih2 =>
    intro A n cp w h hcp h400 hdn
    have hpa := hx1.pos; have hpb := hx2.pos
    have hn : a.length + b.length + 1 = n := by have := h.len; simp only [List.length_cons, List.length_append] at this; omega
    obtain ⟨ad, x', rfl, hab, hx', hc0, hc1⟩ := h.at_ (k := 0) (by omega)
    rw [List.getElem?_cons_zero] at hx'; injection hx' with hx'; subst hx'
    rw [Nat.zero_mul, addrZm] at hc0
    simp only at hc0
    have e0 : (w.alloc (.cells #[] 100)).cell? ad = some (i64 2) := keepa _ hc0
    have B1 := Lib.hid (show Below w.heap.size w (w.alloc (.cells #[] 100)) from below_size.alloc (Nat.le_refl _) _)
    have hz1 := B1.out.size
    obtain ⟨la, hla⟩ : ∃ la, a.length = la := ⟨_, rfl⟩
    obtain ⟨lb, hlb⟩ : ∃ lb, b.length = lb := ⟨_, rfl⟩
    obtain ⟨z, hzz⟩ : ∃ z, 1 + la = z := ⟨_, rfl⟩
    have hz12 : 1 < z ∧ z < n := by omega
    have hcpz : z < cp := by omega
    have HEN := Lib.hid (show endP manyL (((2, 0) :: (a ++ b) : LT).drop 1) 1 = some la by
      have h9 := hx1.end_ b 0
      rw [endP_zero] at h9
      rw [List.drop_succ_cons, List.drop_zero, h9, ← hla]; rfl)
    have hza : z - 1 = la := by omega
    have hzb : n - z = lb := by omega
    have HRA := Lib.hid (fun (w' : World) (hb9 : Below w.heap.size w w') => show Rd2 w' (some ⟨ad.block, ad.off + 2, none⟩) (z - 1) a by
      have h9 := (h.below hb9).part 1 la (by omega)
      rw [List.drop_succ_cons, List.drop_zero, List.take_left' hla] at h9
      rw [hza]
      have e9 : ad.add (1 * 2) = ⟨ad.block, ad.off + 2, none⟩ := by rw [Addr.add, if_neg (by omega)]
      rw [e9] at h9; exact h9)
    have HRB := Lib.hid (fun (w' : World) (hb9 : Below w.heap.size w w') => show Rd2 w' (some (ad.add (z * 2))) (n - z) b by
      have h9 := (h.below hb9).part z lb (by omega)
      rw [← hzz, Nat.add_comm 1 la, List.drop_succ_cons, List.drop_left' hla, List.take_of_length_le (by rw [hlb]; exact Nat.le_refl _)] at h9
      rw [hzb, ← hzz, Nat.add_comm 1 la]; exact h9)
    have HI1 := Lib.hid (fun (w' : World) (hb9 : Below w.heap.size w w') => ih1 _ (z - 1) (cp - 1) w' (HRA.out w' hb9) (by omega) (by omega) (by omega))
    have HI2 := Lib.hid (fun (w' : World) (hb9 : Below w.heap.size w w') => ih2 _ (n - z) (cp - z) w' (HRB.out w' hb9) (by omega) (by omega) (by omega))
    have H1 := Lib.hid (h.below B1.out)
    have HC1 := Lib.hid hx1.cw; have HC2 := Lib.hid hx2.cw
    have O1 := Lib.hid (show Own (w.alloc (.cells #[] 100)) w.heap.size 100 2 (some ⟨w.heap.size, 0, none⟩) 0 0 [] from Own.litK (Nat.le_refl _))
    clear h ih1 ih2 hc0 hc1 hab hx1 hx2 hza hzb
    go_enter Tryz.func51, Tryz.ntmps51
    go_wp2_with fail
    refine (l12End_c (some ad) n cp _ 1 la z _ H1.out (by omega) HEN.out hzz).mono ?_
    rintro e w' ⟨rfl, rfl⟩
    go_wp2_with fail
    refine (HI1.out _ B1.out).mono ?_
    cases o1 with
    | none =>
      rintro e w2 ⟨⟨v2, rfl⟩, hb2⟩
      have B2 := Lib.hid (B1.out.trans (hb2.mono hz1)); have hz2 := B2.out.size
      clear hb2
      go_wp2_with fail
      refine (HI2.out _ B2.out).mono ?_
      cases o2 with
      | none =>
        rintro e w3 ⟨⟨v3, rfl⟩, hb3⟩
        have B3 := Lib.hid (B2.out.trans (hb3.mono hz2))
        clear hb3
        go_wp2_with fail
        go_ret2
        exact TrS.no B3.out
      | some c' =>
        rintro e w3 ⟨⟨A3, c3, rfl, _, _⟩, hb3⟩
        have B3 := Lib.hid (B2.out.trans (hb3.mono hz2))
        clear hb3
        go_wp2_with fail
        go_ret2
        exact TrS.no B3.out
    | some c =>
      obtain ⟨_, g2, _⟩ := HC1.out c rfl
      rintro e w2 ⟨⟨A2, c2, rfl, hw2, hc2⟩, hb2⟩
      obtain ⟨r1, hr1⟩ : ∃ r, c.map rnC = r := ⟨_, rfl⟩
      rw [hr1] at hw2 hc2
      rw [hr1]
      have hr1l : r1.length ≤ 400 := by rw [← hr1, List.length_map]; exact g2
      have hw2s : w.heap.size + 1 ≤ w2.heap.size := by have h9 := hb2.size; rw [World.size_alloc] at h9; exact h9
      have B2 := Lib.hid (B1.out.trans (hb2.mono hz1)); have hz2 := B2.out.size; have R2 := Lib.hid (show Rd2 w2 A2 r1.length r1 from hw2.rd); have O2 := Lib.hid (O1.out.keep hb2)
      have HLT2 := Lib.hid (fun (a : Addr) (ha : A2 = some a) (h0 : 0 < r1.length) => (show w.heap.size + 1 ≤ a.block by
        have h9 := hw2.2 (by omega)
        obtain ⟨a', e', h8, _⟩ := h9
        rw [ha] at e'; injection e' with e'; subst e'
        rw [World.size_alloc] at h8; exact h8))
      clear hw2 hc2 hb2
      go_wp2_with fail
      refine (HI2.out _ B2.out).mono ?_
      cases o2 with
      | none =>
        rintro e w3 ⟨⟨v3, rfl⟩, hb3⟩
        have B3 := Lib.hid (B2.out.trans (hb3.mono hz2))
        clear hb3
        go_wp2_with fail
        go_ret2
        exact TrS.no B3.out
      | some c' =>
        obtain ⟨_, g2', _⟩ := HC2.out c' rfl
        rintro e w3 ⟨⟨A3, c3, rfl, hw3, hc3⟩, hb3⟩
        obtain ⟨r2, hr2⟩ : ∃ r, c'.map rnC = r := ⟨_, rfl⟩
        rw [hr2] at hw3 hc3
        rw [hr2]
        have hr2l : r2.length ≤ 400 := by rw [← hr2, List.length_map]; exact g2'
        have B3 := Lib.hid (B2.out.trans (hb3.mono hz2)); have hz3 := B3.out.size; have R3 := Lib.hid (show Rd2 w3 A3 r2.length r2 from hw3.rd); have O3 := Lib.hid (O2.out.keep hb3); have R2b := Lib.hid (R2.out.below hb3)
        have HLT3 := Lib.hid (fun (a : Addr) (ha : A3 = some a) (h0 : 0 < r2.length) => (show w.heap.size + 1 ≤ a.block ∧ a.block < w3.heap.size by
          have h9 := hw3.2 (by omega)
          obtain ⟨a', e', h8, h7, _⟩ := h9
          rw [ha] at e'; injection e' with e'; subst e'; exact ⟨by omega, h7⟩))
        obtain ⟨U, hU⟩ : ∃ U, ([(0, 0)] ++ r1 ++ r2 : LT) = U := ⟨_, rfl⟩
        have hUn : U.length = 1 + r1.length + r2.length := by rw [← hU, List.length_append, List.length_append]; rfl
        have HO := Lib.hid (show rnO (appS2 (some c) (some c')) = if U.length ≤ 400 then some U else none by
          have h9 : ((0, 0) :: (c ++ c') : LT).length = U.length := by rw [hUn, ← hr1, ← hr2]; simp; omega
          have h8 : (((0, 0) :: (c ++ c') : LT)).map rnC = U := by rw [← hU, ← hr1, ← hr2]; simp [rnC]
          rw [appS2]
          by_cases h4 : U.length ≤ 400
          · rw [if_pos h4, if_pos (by omega)]; show some _ = _; rw [h8]
          · rw [if_neg h4, if_neg (by omega)]; rfl)
        have HU := Lib.hid hU; have HUN := Lib.hid hUn
        have L4 := Lib.hid (show Rd2 (w3.alloc (.cells #[.int .i64 0, .int .i64 0] 100)) (some ⟨w3.heap.size, 0, none⟩) 1 [(0, 0)] from Rd2.lit rfl rfl)
        have B4 := Lib.hid (B3.out.alloc hz3 (.cells #[.int .i64 0, .int .i64 0] 100)); have hz4 := B4.out.size
        have R2c := Lib.hid (R2b.out.alloc (.cells #[.int .i64 0, .int .i64 0] 100)); have R3c := Lib.hid (R3.out.alloc (.cells #[.int .i64 0, .int .i64 0] 100))
        have O4 := Lib.hid (O3.out.alloc (.cells #[.int .i64 0, .int .i64 0] 100))
        have h3s : (w3.alloc (.cells #[.int .i64 0, .int .i64 0] 100)).heap.size = w3.heap.size + 1 := World.size_alloc _ _
        have hSZ := Lib.hid hw2s; have hS3 := Lib.hid h3s
        clear hw3 hc3 hb3 hr1 hr2 hU hUn hw2s h3s
        go_wp2_with (at_builtin; first
          | (refine wp_appComb (by rfl) _ _ (by rfl) w.heap.size A7 (1 + r1.length) c7 _ (by rfl) (by exact O7.out) A3 r2.length c3 r2 (by rfl) (by exact R3e.out) (by omega) hz7' ?_; intro A8 c8 w8 own8 hb8 hk8 hg8 hz8; rw [← HUN.out] at own8 ⊢; have O8 := Lib.hid own8; have B8 := Lib.hid (B7.out.trans hb8); clear own8 hb8 hk8 hg8 hz8)
          | (refine wp_appComb (by rfl) _ _ (by rfl) w.heap.size A6 1 c6 _ (by rfl) (by exact O6.out) A2 r1.length c2 r1 (by rfl) (by exact R2d.out) (by omega) hz6' ?_; intro A7 c7 w7 own7 hb7 hk7 hg7 hz7; have O7 := Lib.hid own7; have B7 := Lib.hid (B6.out.trans hb7); have hz7' := B7.out.size
             have R3e := Lib.hid (show Rd2 w7 A3 r2.length r2 from Rd.move R3d.out (fun a9 hn9 ha9 => hk7 _ (by have h1 := (HLT3.out a9 ha9 (by omega)).2; have h2 := hS3.out; have h3 := hz6s.out; omega) (fun ad' e9 => by
               have h1 := HLT3.out a9 ha9 (by omega)
               rcases hG6.out with h2 | h2
               · rw [h2] at e9; rw [← Option.some.inj e9]; show w.heap.size ≠ a9.block; omega
               · rw [h2] at e9; rw [← Option.some.inj e9]; show (w3.alloc (.cells #[.int .i64 0, .int .i64 0] 100)).heap.size ≠ a9.block; have := hS3.out; omega)) hz7)
             clear own7 hb7 hk7 hg7 hz7)
          | (refine wp_appComb (by rfl) _ _ (by rfl) w.heap.size (some ⟨w.heap.size, 0, none⟩) 0 0 _ (by rfl) (by exact O4.out) (some ⟨w3.heap.size, 0, none⟩) 1 1 [(0, 0)] (by rfl) (by exact L4.out) (by omega) hz4 ?_; intro A6 c6 w6 own6 hb6 hk6 hg6 hz6; rw [Nat.zero_add] at own6 ⊢; have O6 := Lib.hid own6; have B6 := Lib.hid (B4.out.trans hb6); have hz6' := B6.out.size
             have R2d := Lib.hid (show Rd2 w6 A2 r1.length r1 from Rd.move R2c.out (fun a9 hn9 ha9 => hk6 _ (by obtain ⟨a8, e8, h8, _⟩ := R2c.out.2 hn9; rw [ha9] at e8; rw [Option.some.inj e8]; exact h8) (fun ad' e9 => by rw [← Option.some.inj e9]; show w.heap.size ≠ a9.block; have := HLT2.out a9 ha9 (by omega); omega)) hz6)
             have R3d := Lib.hid (show Rd2 w6 A3 r2.length r2 from Rd.move R3c.out (fun a9 hn9 ha9 => hk6 _ (by obtain ⟨a8, e8, h8, _⟩ := R3c.out.2 hn9; rw [ha9] at e8; rw [Option.some.inj e8]; exact h8) (fun ad' e9 => by rw [← Option.some.inj e9]; show w.heap.size ≠ a9.block; have := (HLT3.out a9 ha9 (by omega)).1; omega)) hz6)
             have hG6 := Lib.hid hg6; have hz6s := Lib.hid hz6
             clear own6 hb6 hk6 hg6 hz6))
        by_cases h4 : U.length ≤ 400
        · have gl : decide ((U.length : Int) ≤ 400) = true := decide_eq_true (by omega)
          go_wp2_with fail
          go_ret2
          rw [HO.out, if_pos h4, gl]
          exact TrS.yes (T := U) (by have h9 := O8.out.wrK; rw [List.nil_append, ← List.flatMap_append, ← List.flatMap_append, HU.out] at h9; exact h9) O8.out.cap B8.out
        · have gl : decide ((U.length : Int) ≤ 400) = false := decide_eq_false (by omega)
          go_wp2_with fail
          go_ret2
          rw [HO.out, if_neg h4, gl]
          exact TrS.no B8.out
end Go.Proofs.YtebjpmmgdkepjaaGreatDoor
/-
  Functions as combinator terms: the reference's evaluation.
-/
namespace Go.Proofs.YtebjpmmgdkepjaaGreatDoor
open Go.RowKit
open FTr

set_option maxHeartbeats 4000000 in
set_option maxRecDepth 100000 in
theorem sEvalByComb_c (A : Option Addr) (n c : Nat) (xs : List Nd3) (A' : Option Addr) (n' c' : Nat) (ys : List Int) (b : Int) (w : World) (h : Rd3 w A n xs) (h' : RdI w A' n' ys) (hn : n ≤ 1000000000) (hn' : n' ≤ 1000000000) (hnc : n ≤ c) :
    Calls Tryz.prog 22 #[.slice A n c, .slice A' n' c', .int .i64 b] w fun e w' => e = .returned (.tuple #[.int .i64 (ecF xs ys b).1, .int .i64 (ecF xs ys b).2.1, .int .i64 (ecF xs ys b).2.2]) ∧ Below w.heap.size w w' := by
  obtain ⟨R, hR⟩ : ∃ R, ecF xs ys b = R := ⟨_, rfl⟩
  rw [hR]
  cases hv : validF xs with
  | false =>
    have HR := Lib.hid (show ((0, 0, 1) : Int × Int × Int) = R by rw [← hR, ecF_bad hv])
    have HC := Lib.hid (l11Is_c A n c xs false w h hn hv)
    clear h h' hR hv
    go_enter Tryz.func22, Tryz.ntmps22
    go_wp2_with fail
    refine HC.out.mono ?_
    rintro e w1 ⟨rfl, hb1⟩
    have B1 := Lib.hid hb1
    clear hb1
    go_wp2_with fail
    go_ret3
    rw [← HR.out]
    exact ⟨rfl, B1.out⟩
  | true =>
    obtain ⟨h60, t, hok, rfl⟩ := validF_iff.1 hv
    have hp := flat_pos t
    obtain ⟨ad, rfl, _⟩ := h.2 (by rw [h.len] at hp; omega)
    have HI := Lib.hid (l11Is_c (some ad) n c (flat t) true w h hn hv)
    rw [ecF_flat hok h60] at hR
    obtain ⟨x, hx0, hxa⟩ : ∃ x, (flat t)[0]? = some x ∧ ar t = x.2.1 := by
      obtain ⟨x, ts⟩ := t
      exact ⟨x, by rw [flat_mk]; rfl, rfl⟩
    obtain ⟨qb, hqb⟩ : ∃ q, inB b 1 20000 = q := ⟨_, rfl⟩
    obtain ⟨qa, hqa⟩ : ∃ q, argsB x.2.1 ys = q := ⟨_, rfl⟩
    have HBU := Lib.hid (fun (w : World) => l05BudgetC_b b qb hqb w)
    have HAR := Lib.hid (fun (w' : World) (hb : Below w.heap.size w w') => l18Args_c ad n c (flat t) x A' n' c' ys qa w' (Rd3.below h hb) hx0 (RdI.below h' hb) hn' hqa)
    have hq : (inB b 1 20000 && argsB (ar t) ys) = (qb && qa) := by rw [hqb, hxa, hqa]
    by_cases hqq : (qb && qa) = true
    · obtain ⟨hq1, hq2⟩ := Bool.and_eq_true_iff.1 hqq
      subst hq1 hq2
      have hall : allB 0 150 ys = true := by rw [argsB, Bool.and_eq_true] at hqa; exact hqa.2
      have har : (ys.length : Int) = x.2.1 := by rw [argsB, Bool.and_eq_true, decide_eq_true_eq] at hqa; exact hqa.1
      have hn4 : n' ≤ 4 := by
        obtain ⟨y, ts⟩ := t
        have h9 := (nodeF_ar (okT_iff.1 hok).node).2.1
        rw [flat_mk] at hx0
        injection hx0 with hx0; subst hx0
        rw [h'.len] at har; omega
      have hb0 := inB_t hqb
      obtain ⟨k, rfl⟩ : ∃ k : Nat, b = (k : Int) := ⟨b.toNat, by omega⟩
      obtain ⟨o, hoo⟩ : ∃ o, apO t ys = o := ⟨_, rfl⟩
      have HAP := Lib.hid (fun (w' : World) (hb : Below w.heap.size w w') => l18Applied_c t ad n c A' n' c' ys o w' hok h60 (Rd3.below h hb) hnc (RdI.below h' hb) hall hn4 hoo)
      have HLC := Lib.hid (show ∀ u, o = some u → ∃ oc, LcX 0 u oc from fun u e => (apO_clo hok (by rw [hoo, e])).lcX)
      have HOO := Lib.hid hoo; have HQ := Lib.hid (show (inB (k : Int) 1 20000 && argsB (ar t) ys) = true from hq); have HR0 := Lib.hid hR
      clear h h' hR hv hok h60 hp hq hqq hqa hqb hall har hn4 hoo hx0 hxa
      go_enter Tryz.func22, Tryz.ntmps22
      go_wp2_with fail
      refine HI.out.mono ?_
      rintro e w1 ⟨rfl, hb1⟩
      have B1 := Lib.hid hb1; have hz1 := hb1.size
      clear hb1
      go_wp2_with fail
      refine (HBU.out _).mono ?_
      rintro e w' ⟨rfl, rfl⟩
      go_wp2_with fail
      refine (HAR.out _ B1.out).mono ?_
      rintro e w' ⟨rfl, rfl⟩
      go_wp2_with fail
      refine (HAP.out _ B1.out).mono ?_
      cases o with
      | none =>
        have HR := Lib.hid (show ((0, 0, 5) : Int × Int × Int) = R by rw [← HR0.out, ecT_no HQ.out HOO.out])
        rintro e w2 ⟨⟨v, rfl⟩, hb2⟩
        have B2 := Lib.hid (B1.out.trans (hb2.mono hz1))
        clear hb2
        go_wp2_with fail
        go_ret3
        rw [← HR.out]
        exact ⟨rfl, B2.out⟩
      | some u =>
        rintro e w2 ⟨⟨A2, c2, rfl, hw2, hc2⟩, hb2⟩
        have B2 := Lib.hid (B1.out.trans (hb2.mono hz1)); have R2 := Lib.hid (show Rd2 w2 A2 u.length u from hw2.rd); have hz2 := B2.out.size
        have hV := (validL_end (apO_valid HOO.out)).2.2
        obtain ⟨oc, hlx⟩ := HLC.out u rfl
        have HR := Lib.hid (show ecA oc k = R by rw [← HR0.out, ecT_yes HQ.out HOO.out hlx, Int.toNat_natCast])
        have HCB := Lib.hid (l18Comb_c hlx A2 u.length c2 w2 R2.out hc2 hV (by omega))
        have HZ := Lib.hid hlx.zero.2; have HCW := Lib.hid hlx.cw
        clear hw2 hc2 hb2 hlx hV
        go_wp2_with fail
        refine HCB.out.mono ?_
        cases oc with
        | none =>
          have HR2 := Lib.hid (show ((0, 0, 5) : Int × Int × Int) = R from HR.out)
          rintro e w3 ⟨⟨v3, rfl⟩, hb3⟩
          have B3 := Lib.hid (B2.out.trans (hb3.mono hz2))
          clear hb3
          go_wp2_with fail
          go_ret3
          rw [← HR2.out]
          exact ⟨rfl, B3.out⟩
        | some cc =>
          obtain ⟨hvc, hrn⟩ := HZ.out cc rfl
          rintro e w3 ⟨⟨A3, c3, rfl, hw3, hc3⟩, hb3⟩
          rw [hrn] at hw3 hc3
          rw [hrn]
          have B3 := Lib.hid (B2.out.trans (hb3.mono hz2)); have R3 := Lib.hid (show Rd2 w3 A3 cc.length cc from hw3.rd); have hz3 := B3.out.size
          have HNB := Lib.hid (l18Number_c A3 cc.length c3 cc k R w3 R3.out hvc (by omega) HR.out)
          clear hw3 hc3 hb3 hrn hvc
          go_wp2_with fail
          refine HNB.out.mono ?_
          rintro e w4 ⟨rfl, hb4⟩
          have B4 := Lib.hid (B3.out.trans (hb4.mono hz3))
          clear hb4
          go_wp2_with fail
          go_ret3
          exact ⟨rfl, B4.out⟩
    · have hqf : (qb && qa) = false := by cases h9 : (qb && qa) with | false => rfl | true => exact absurd h9 hqq
      have HR := Lib.hid (show ((0, 0, 2) : Int × Int × Int) = R by rw [← hR, ecT_bad (by rw [hq, hqf])])
      have HQF := Lib.hid hqf
      clear h h' hR hv hok h60 hp hq hqq hqa hqb hqf hx0 hxa
      go_enter Tryz.func22, Tryz.ntmps22
      go_wp2_with fail
      refine HI.out.mono ?_
      rintro e w1 ⟨rfl, hb1⟩
      have B1 := Lib.hid hb1; have hz1 := hb1.size
      clear hb1
      cases qb with
      | false =>
        go_wp2_with fail
        refine (HBU.out _).mono ?_
        rintro e w' ⟨rfl, rfl⟩
        go_wp2_with fail
        go_ret3
        rw [← HR.out]
        exact ⟨rfl, B1.out⟩
      | true =>
        have hqa0 : qa = false := HQF.out
        subst hqa0
        go_wp2_with fail
        refine (HBU.out _).mono ?_
        rintro e w' ⟨rfl, rfl⟩
        go_wp2_with fail
        refine (HAR.out _ B1.out).mono ?_
        rintro e w' ⟨rfl, rfl⟩
        go_wp2_with fail
        go_ret3
        rw [← HR.out]
        exact ⟨rfl, B1.out⟩
end Go.Proofs.YtebjpmmgdkepjaaGreatDoor
/-
  How the laws' arguments read: each type's value and what its memory holds.
-/
namespace Go.Proofs.YtebjpmmgdkepjaaGreatDoor
open Go.ChangeShapes Go.WideShapes Go.ChangeAt Go.RowKit Go.Joins

def i64ok (x : Int) : Prop := -9223372036854775808 ≤ x ∧ x ≤ 9223372036854775807
theorem i64ok_of {x : Int} (h : (Lit.int .i64 x).wf = true) : i64ok x := by
  have := bounds_i64 h
  unfold i64ok; omega

section
variable {H : Type} {enc : TypeId × Value → H} {W : World} {fuel : Nat} {y : DataW H × List MemPlace}

theorem trod_I64 {c : Value} (h : DataW.trod enc Tryz.prog W 0 (fun _ => true) true fuel 2 [c] = some y) : ∃ x, c = .int .i64 x ∧ i64ok x := by
  obtain ⟨x, e, _, hw⟩ := DataW.trod_int Tryz.underlying2 h
  injection e with e
  exact ⟨x, e, i64ok_of hw⟩

theorem trod_I64S {c : Value} (h : DataW.trod enc Tryz.prog W 0 (fun _ => true) true fuel 29 [c] = some y) :
    ∃ A n cp xs, c = .slice A n cp ∧ RdI W A n xs ∧ n ≤ 9223372036854775807 ∧ ∀ x ∈ xs, i64ok x := by
  rcases open_ints Tryz.underlying29 Tryz.underlying2 (by kernel_rfl) h with ⟨hcs, _⟩ | ⟨a, l, cp, zs, hcs, _, hl, hm, hz, _, hcell, hwz⟩
  · injection hcs with hcs
    exact ⟨none, 0, 0, [], hcs, RdI.nil, by omega, by simp⟩
  · injection hcs with hcs
    unfold maxLen at hm
    rw [if_pos rfl] at hz
    refine ⟨some a, l, cp, zs.take l, hcs, ⟨by simp; omega, fun hl0 => ⟨a, rfl, ?_, fun j v hj => ?_⟩⟩, by omega, fun x hx => i64ok_of (hwz x (List.mem_of_mem_take hx))⟩
    · have := World.block_lt_of_cell? W _ (hcell 0 (by omega))
      rwa [block_add] at this
    · rw [List.getElem?_map, List.getElem?_take] at hj
      split at hj
      · rename_i hjl
        rw [hcell j (by omega)]
        rw [List.getElem?_eq_getElem (by omega)] at hj
        simp at hj
        rw [← hj]
        simp [List.getD_eq_getElem?_getD, List.getElem?_eq_getElem (show j < zs.length by omega)]
      · simp at hj
end

section
variable {H : Type} {enc : TypeId × Value → H} {W : World} {base : Nat} {v : Value} {d : DataW H} {p : List MemPlace}

set_option maxRecDepth 100000 in
theorem open_I64S (hv : Value.okWide Tryz.prog W .any base 29 v) (h : DataW.Trod enc Tryz.prog W 0 (fun _ => true) true 29 v d p) :
    ∃ A n cp xs, v = .slice A n cp ∧ RdI W A n xs ∧ n ≤ 9223372036854775807 ∧ ∀ x ∈ xs, i64ok x := by
  obtain ⟨a, l, c, rfl⟩ := okWide_slice Tryz.underlying29 hv
  obtain ⟨fuel, hf⟩ := h
  exact trod_I64S (c := .slice a l c) (by simpa [Value.cells] using hf)

end
end Go.Proofs.YtebjpmmgdkepjaaGreatDoor
