/-
  Parts of the proof, one behind the other: contracts of the functions that the law reaches, and plain laws.
-/
import Derived.Test.YtebjpmmgdkepjaaGreatDoorLot09
import Derived.Test.YtebjpmmgdkepjaaGreatDoorLot15
import Derived.Test.YtebjpmmgdkepjaaGreatDoorLot17
import Derived.Test.YtebjpmmgdkepjaaGreatDoorLot21
import Derived.Test.YtebjpmmgdkepjaaGreatDoorLot27
/-
  Functions as terms: the reference's term of a function.
-/
namespace Go.Proofs.YtebjpmmgdkepjaaGreatDoor
open Go.RowKit
open FTr

/-- a term and whether there is one -/
def TrS (o : Option LT) (w : World) (e : Ending) (w' : World) : Prop := (match o with
  | some T => ∃ A c, e = .returned (.tuple #[.slice A T.length c, .bool true]) ∧ Wr w' w.heap.size w'.heap.size A (T.length * 2) (T.flatMap enc2) ∧ T.length ≤ c
  | none => ∃ v, e = .returned (.tuple #[v, .bool false])) ∧ Below w.heap.size w w'
theorem TrS.yes {T : LT} {w w' : World} {A : Option Addr} {c : Nat} (h1 : Wr w' w.heap.size w'.heap.size A (T.length * 2) (T.flatMap enc2)) (h2 : T.length ≤ c) (h3 : Below w.heap.size w w') : TrS (some T) w (.returned (.tuple #[.slice A T.length c, .bool true])) w' := ⟨⟨A, c, rfl, h1, h2⟩, h3⟩
theorem TrS.no {w w' : World} {v : Value} (h3 : Below w.heap.size w w') : TrS none w (.returned (.tuple #[v, .bool false])) w' := ⟨⟨v, rfl⟩, h3⟩
set_option maxHeartbeats 8000000 in
set_option maxRecDepth 100000 in
theorem l18Term_c (t0 : FTr) : okT t0 = true → (flat t0).length ≤ 60 → ∀ (ad : Addr) (n cp : Nat) (w : World), Rd3 w (some ad) n (flat t0) → n ≤ cp →
    Calls Tryz.prog 77 #[.slice (some ad) n cp] w (TrS (trmO t0) w) := by
  refine FTr.ind (P := fun t0 => okT t0 = true → (flat t0).length ≤ 60 → ∀ (ad : Addr) (n cp : Nat) (w : World), Rd3 w (some ad) n (flat t0) → n ≤ cp →
    Calls Tryz.prog 77 #[.slice (some ad) n cp] w (TrS (trmO t0) w)) (fun x ts ih ho h60 ad n cp w h hcp => ?_) t0
  have hL := h.len
  have hpos := flat_pos (mk x ts)
  obtain ⟨ad', x', e, hab, hx, hc0, hc1, hc2⟩ := h.at_ (k := 0) (by omega)
  injection e with e; subst e
  rw [Nat.zero_mul, addrZf] at hc0 hc1 hc2
  rw [flat_mk, List.getElem?_cons_zero] at hx
  injection hx with hx; subst hx
  have hO := okT_iff.1 ho
  obtain ⟨m, hm⟩ : ∃ m, ts.length = m := ⟨_, rfl⟩
  have hm5 : m ≤ 5 := by rw [← hm, ← List.length_map (f := ar), hO.ars]; exact manyF_le x hO.node
  have HMF := Lib.hid (show manyF x = m by rw [← hm, ← List.length_map (f := ar), hO.ars]; rfl)
  have HNO := Lib.hid hO.node
  have hn60 : n ≤ 60 := by rw [← hL]; exact h60
  have C0 := Lib.hid hc0; have C1 := Lib.hid hc1; have C2 := Lib.hid hc2
  have HI := Lib.hid (show ∀ t ∈ ts, ∀ (ad : Addr) (cp : Nat) (w : World), Rd3 w (some ad) (flat t).length (flat t) → (flat t).length ≤ cp → Calls Tryz.prog 77 #[.slice (some ad) (flat t).length cp] w (TrS (trmO t) w) from
    fun t ht ad cp w h1 h2 => ih t ht (hO.kids t ht) (by have := flats_mem ht; rw [flat_mk, List.length_cons] at h60; omega) ad _ cp w h1 h2)
  have H := Lib.hid h; have HTS := Lib.hid hm; have HK := Lib.hid hO.kind; have HKS := Lib.hid hO.kids
  have c1' : (w.alloc (.cells #[] 25)).cell? ⟨ad.block, ad.off + 1, none⟩ = some (i64 x.2.1) := keepa _ hc1
  clear h ih hO ho hm hc0 hc2
  go_enter Tryz.func77, Tryz.ntmps77
  go_wp2_with (first | (go_at_call 118; refine (l11Many_c ad x m _ (by exact keepa _ C0.out) (by exact keepa _ C2.out) HNO.out HMF.out).mono ?_; rintro e w2 ⟨rfl, rfl⟩))
  go_loopw [5, 6, 7] (fun ov av iv wr => ∃ (i a oc : Nat) (O : Option Addr) (ps : List Tm), i ≤ m ∧ iv = .int .i64 ((m : Int) - (i : Int)) ∧ av = .int .i64 a ∧ a ≤ n ∧ ov = .slice O i oc ∧ Hid (a = 0 + 1 + (flats (ts.take i)).length) ∧ Hid (LmS wr w.heap.size 25 O i oc ps) ∧ Hid ((ts.take i).map trmO = (ps.map Tm.t).map some) ∧ Below w.heap.size w wr) (fun _ _ iv _ => (intOf iv).toNat)
  case atStart => exact ⟨0, 1, 0, _, [], by omega, by simp, rfl, by omega, rfl, by simp [Hid, flats_nil], LmS.nil (Own.lit (Nat.le_refl _)), rfl, below_size.alloc (Nat.le_refl _) _⟩
  case round =>
    obtain ⟨i, a, oc, O, ps, hi, rfl, rfl, han, rfl, ha, hO, hp, hb⟩ := hrel
    have HB := Lib.hid hb
    have hwz := hb.size
    by_cases hlt : i < m
    · have g0 : decide (((m : Int) - (i : Int)) > 0) = true := decide_eq_true (by omega)
      have v0 : IntKind.i64.wrap ((m : Int) - (i : Int) - 1) = (m : Int) - ((i + 1 : Nat) : Int) := by rw [IntWalk.i64_in _ (by omega)]; omega
      obtain ⟨t, ht⟩ : ∃ t, ts[i]? = some t := ⟨_, List.getElem?_eq_getElem (by rw [HTS.out]; exact hlt)⟩
      obtain ⟨r', hr'⟩ := part_at (f := flat (mk x ts)) (k := 0) (r := []) (by rw [List.drop_zero, List.append_nil]) ht
      rw [← ha.out] at hr'
      have hlr := congrArg List.length hr'
      rw [List.length_drop, List.length_append, hL] at hlr
      have htp := flat_pos t
      have hE := nsE_at hr' (okT_okS t (HKS.out t (List.mem_of_getElem? ht)))
      obtain ⟨l, hl⟩ : ∃ l, (flat t).length = l := ⟨_, rfl⟩
      rw [hl] at hlr htp hE
      obtain ⟨z, hz⟩ : ∃ z, a + l = z := ⟨_, rfl⟩
      have HE := Lib.hid (show (nsE ((flat (mk x ts)).drop a) 1).map (a + ·) = some z by rw [hE, ← hz]; rfl)
      have hzn : z ≤ n := by omega
      have hza : a < z := by omega
      obtain ⟨o, hoo⟩ : ∃ o, trmO t = o := ⟨_, rfl⟩
      have HS := Lib.hid (show ∀ w', Below w.heap.size w w' → Calls Tryz.prog 77 #[.slice (some (ad.add (a * 3))) (z - a) (cp - a)] w' (TrS o w') from fun w' hb' => by
        have h1 := (Rd3.below H.out hb').part a l (by omega)
        rw [hr', List.take_left' hl] at h1
        have := HI.out t (List.mem_of_getElem? ht) (ad.add (a * 3)) (cp - a) w' (by rw [hl]; exact h1) (by omega)
        rw [hl, hoo] at this
        rw [show z - a = l by omega]; exact this)
      have HA2 := Lib.hid (show z = 0 + 1 + (flats (ts.take (i + 1))).length by rw [flats_take ht, List.length_append, hl, ← hz, ha.out]; omega)
      have HTM := Lib.hid (List.mem_of_getElem? ht)
      have HX := Lib.hid (show (ts.take (i + 1)).map trmO = (ps.map Tm.t).map some ++ [o] by rw [take_at ht, List.map_append, hp.out, List.map_cons, List.map_nil, hoo])
      have HOO := Lib.hid hoo
      clear ht hr' hE ha hb hl hoo hp
      cases o with
      | none =>
        have HG := Lib.hid (show none = trmO (mk x ts) from (trmO_no (trmsO_none HTM.out HOO.out)).symm)
        go_wp2_with (first | (go_at_call 116; refine (l11End_c (some ad) n cp _ a (some z) _ (by exact Rd3.below H.out HB.out) (by omega) (by omega) HE.out).mono ?_; rintro e w3 ⟨rfl, hq3⟩; have E3 := Lib.hid (HB.out.trans (hq3.below _)); clear hq3) | (go_at_call 77; refine (HS.out _ E3.out).mono ?_; rintro e w4 ⟨⟨v4, rfl⟩, hb4⟩; have E4 := Lib.hid (E3.out.trans (hb4.mono E3.out.size)); clear hb4))
        refine bodyPost_ret (v := .tuple #[.slice none 0 0, .bool false]) (by simp [results, Tryz.results77, go_sem]) rfl ?_
        rw [← HG.out]
        exact TrS.no E4.out
      | some T =>
        go_wp2_with (first | (go_at_call 116; refine (l11End_c (some ad) n cp _ a (some z) _ (by exact Rd3.below H.out HB.out) (by omega) (by omega) HE.out).mono ?_; rintro e w3 ⟨rfl, hq3⟩; have D3 := Lib.hid (hq3.below wr.heap.size); have E3 := Lib.hid (HB.out.trans (D3.out.mono hwz)); clear hq3) | (go_at_call 77; refine (HS.out _ E3.out).mono ?_; rintro e w4 ⟨⟨A4, c4, rfl, hw4, hc4⟩, hb4⟩; have D4 := Lib.hid (D3.out.trans (hb4.mono D3.out.size)); have W4 := Lib.hid (hw4.wider (lo' := wr.heap.size) D3.out.size (Nat.le_refl _)); have E4 := Lib.hid (E3.out.trans (hb4.mono E3.out.size)); have z4 := D4.out.size; clear hw4 hc4 hb4) | (at_builtin; refine wp_app1 (by rfl) _ _ 32 25 (.slice none 0 0) 24 (by rfl) Tryz.underlying32 info_sLam rfl w.heap.size O i oc (ps.map Tm.hd) (by rfl) (by exact (hO.out.own.keep D4.out).alloc _) w4.heap.size (.slice A4 T.length c4) (by rfl) (by exact new_cell _ _ _ 0) rfl (by omega) (by omega) (by simp; omega) ?_; intro g' cap w5 own5 hb5 hk5 hg5 hz5; have L5 := Lib.hid (LmS.push hO.out hwz (w1 := w4.alloc (.cells #[.slice A4 T.length c4] 25)) (p := ⟨A4, c4, T⟩) (D4.out.alloc z4 _) ((W4.out.below (below_size.alloc (Nat.le_refl _) _)).wider (Nat.le_refl _) (by simp)) (by rw [List.map_append]; exact own5) hk5 hg5 hz5); have E5 := Lib.hid ((E4.out.alloc (by omega) _).trans hb5); clear own5 hb5 hk5 hg5 hz5))
        go_roundw
        case rel => exact ⟨i + 1, z, cap, some ⟨g', 0, none⟩, ps ++ [(⟨A4, c4, T⟩ : Tm)], by omega, rfl, rfl, hzn, rfl, HA2.out, L5.out, by unfold Hid; rw [HX.out, List.map_append, List.map_append]; rfl, E5.out⟩
        case measure => simp [intOf]; omega
    · obtain rfl : i = m := by omega
      have g0 : decide (((i : Int) - (i : Int)) > 0) = false := decide_eq_false (by omega)
      have HTK := Lib.hid (show ts.take i = ts from List.take_of_length_le (by rw [HTS.out]; exact Nat.le_refl _))
      have HPT := Lib.hid (show ts.map trmO = (ps.map Tm.t).map some by rw [← hp.out, HTK.out])
      obtain ⟨L, hLL⟩ : ∃ L, ps.map Tm.t = L := ⟨_, rfl⟩
      have HPL := Lib.hid hLL
      have hpt := HPT.out
      rw [hLL] at hpt
      have HLE := Lib.hid (part_len hpt)
      have hpl : ps.length = i := hO.out.len
      have hpl2 : L.length = i := by rw [← hLL, List.length_map, hpl]
      obtain ⟨U, hU0⟩ : ∃ U, outLm x L = U := ⟨_, rfl⟩
      obtain ⟨q, hq⟩ : ∃ q, validL U = q := ⟨_, rfl⟩
      have HQ := Lib.hid hq
      have HRES := Lib.hid (show (if q = true then some U else none) = trmO (mk x ts) by rw [trmO_yes (trmsO_of hpt), hU0, hq])
      have hul : U.length ≤ 3000 := by rw [← hU0]; exact outLm_len HNO.out (by rw [hpl2]; exact hm5) HLE.out
      have q0 : (wr.alloc (.cells #[] 62)).cell? ad = some (i64 x.1) := keepa _ (keepc hb C0.out)
      have q2 : (wr.alloc (.cells #[] 62)).cell? ⟨ad.block, ad.off + 2, none⟩ = some (i64 x.2.2) := keepa _ (keepc hb C2.out)
      have HU0 := Lib.hid hU0
      have HBA := Lib.hid (show Below w.heap.size w (wr.alloc (.cells #[] 62)) from hb.alloc hwz _)
      have hwa := HBA.out.size
      have HLP := Lib.hid hpl; have HLP2 := Lib.hid hpl2
      have HKI := HK.out
      clear hb hp HI HK ha hi hlt C0 C1 C2 c1' hab hpl hpl2 hU0 hq hpt hLL HPT HTK
      obtain ⟨kk, a, ii⟩ := x
      simp only at q0 q2
      cases HKI with
      | zero h0 ha hi ht =>
        simp only at h0 ha hi
        subst h0 hi ht
        obtain ⟨na, rfl⟩ : ∃ na : Nat, a = (na : Int) := ⟨a.toNat, by omega⟩
        have HU := Lib.hid (show absLm na (numLm 0) = U by rw [← HU0.out, outLm, bod_zero rfl]; rfl)
        go_wp2_with fail
        refine (l12Numeral0_c _).mono ?_
        rintro e w7 ⟨A7, c7, rfl, hl7, hw7, hc7, hb7⟩
        have RD7 := Lib.hid hw7.rd; have E7 := Lib.hid (HBA.out.trans (hb7.mono hwa))
        clear hl7 hw7 hc7 hb7
        go_wp2_with (first | (go_at_call 122; go_loud (refine (l18AbsT_c na (A7) (3) (c7) (numLm 0) U _ (by exact RD7.out) HU.out (by omega) (by omega)).mono ?_; rintro e w8 ⟨A8, c8, rfl, hl8, hw8, hc8, hb8⟩; have E8 := Lib.hid ((E7.out).trans (hb8.mono (E7.out).size)); have W8 := Lib.hid (hw8.wider (lo' := w.heap.size) (E7.out).size (Nat.le_refl _)); have C8 := Lib.hid hc8; clear hl8 hw8 hc8 hb8)) | (go_at_call 79; refine (l12Is_c A8 U.length c8 U q _ W8.out.rd (by omega) HQ.out).mono ?_; rintro e w9 ⟨rfl, hb9⟩; have E9 := Lib.hid (E8.out.trans (hb9.mono E8.out.size)); have W9 := Lib.hid ((W8.out.below hb9).wider (Nat.le_refl _) hb9.size); clear hb9))
        refine bodyPost_ret (v := .tuple #[.slice A8 U.length c8, .bool q]) (by simp [results, Tryz.results77, go_sem]) rfl ?_
        rw [← HRES.out]
        cases q
        · exact TrS.no E9.out
        · exact TrS.yes W9.out C8.out E9.out
      | next h0 ha hi ht =>
        simp only at h0 ha hi
        subst h0 hi ht
        obtain ⟨na, rfl⟩ : ∃ na : Nat, a = (na : Int) := ⟨a.toNat, by omega⟩
        have hna : na ≤ 4 := by omega
        clear ha
        obtain ⟨T, hT⟩ : ∃ T, appLm sucLm [varLm 0] = T := ⟨_, rfl⟩
        have HU := Lib.hid (show absLm na T = U by rw [← HU0.out, outLm, bod_next rfl, hT]; rfl)
        have hTb : T.length ≤ 100000 := by rw [← hT]; decide
        have HT := Lib.hid hT
        clear hT
        go_wp2_with fail
        refine (l18Next_c _).mono ?_
        rintro e w3 ⟨A3, c3, rfl, hl3, hw3, hc3, hb3⟩
        have R3 := Lib.hid (show Rd2 w3 A3 10 sucLm from hw3.rd); have E3 := Lib.hid (HBA.out.trans (hb3.mono hwa))
        clear hl3 hw3 hc3 hb3
        go_wp2_with fail
        refine (l18Var_c (0) _).mono ?_
        rintro e w4 ⟨A4, c4, rfl, hl4, hw4, hc4, hb4⟩
        have D4 := Lib.hid hb4; have E4 := Lib.hid (E3.out.trans (hb4.mono E3.out.size)); have R4 := Lib.hid (show Rd2 w4 A4 1 (varLm (0)) from hw4.rd)
        have L4 := Lib.hid (fun (b : Nat) (hb : b ≤ _) => hw4.from_ hb (by omega))
        clear hl4 hw4 hc4 hb4
        go_wp2_with fail
        refine (l12ApplyT_c A3 10 c3 sucLm (some ⟨w4.heap.size, 0, none⟩) 1 1 T.length [⟨A4, c4, varLm 0⟩] T _ ((R3.out.below D4.out).alloc _) (tm1 R4.out) (by omega) HT.out rfl hTb).mono ?_
        rintro e w7 ⟨A7, c7, rfl, hl7, hw7, hc7, hb7⟩
        have RD7 := Lib.hid (show Rd2 w7 A7 T.length T from hw7.rd); have E7 := Lib.hid (E4.out.trans ((below_size.alloc (Nat.le_refl _) _).trans (hb7.mono (by simp)) |>.mono E4.out.size))
        clear hl7 hw7 hc7 hb7
        go_wp2_with (first | (go_at_call 122; go_loud (refine (l18AbsT_c na (A7) (T.length) (c7) (T) U _ (by exact RD7.out) HU.out (by omega) (by omega)).mono ?_; rintro e w8 ⟨A8, c8, rfl, hl8, hw8, hc8, hb8⟩; have E8 := Lib.hid ((E7.out).trans (hb8.mono (E7.out).size)); have W8 := Lib.hid (hw8.wider (lo' := w.heap.size) (E7.out).size (Nat.le_refl _)); have C8 := Lib.hid hc8; clear hl8 hw8 hc8 hb8)) | (go_at_call 79; refine (l12Is_c A8 U.length c8 U q _ W8.out.rd (by omega) HQ.out).mono ?_; rintro e w9 ⟨rfl, hb9⟩; have E9 := Lib.hid (E8.out.trans (hb9.mono E8.out.size)); have W9 := Lib.hid ((W8.out.below hb9).wider (Nat.le_refl _) hb9.size); clear hb9))
        refine bodyPost_ret (v := .tuple #[.slice A8 U.length c8, .bool q]) (by simp [results, Tryz.results77, go_sem]) rfl ?_
        rw [← HRES.out]
        cases q
        · exact TrS.no E9.out
        · exact TrS.yes W9.out C8.out E9.out
      | pick h0 ha hi ht =>
        simp only at h0 ha hi
        subst h0 ht
        obtain ⟨na, rfl⟩ : ∃ na : Nat, a = (na : Int) := ⟨a.toNat, by omega⟩
        obtain ⟨v, hv⟩ : ∃ v : Int, (na : Int) - 1 - ii = v := ⟨_, rfl⟩
        have v1 : IntKind.i64.wrap ((na : Int) - 1) = (na : Int) - 1 := IntWalk.i64_in _ (by omega)
        have v2 : IntKind.i64.wrap ((na : Int) - 1 - ii) = v := by rw [hv]; exact IntWalk.i64_in _ (by omega)
        have HU := Lib.hid (show absLm na (varLm v) = U by rw [← HU0.out, outLm, bod_pick rfl, ← hv]; rfl)
        clear hv
        go_wp2_with fail
        refine (l18Var_c (v) _).mono ?_
        rintro e w7 ⟨A7, c7, rfl, hl7, hw7, hc7, hb7⟩
        have D7 := Lib.hid hb7; have E7 := Lib.hid (HBA.out.trans (hb7.mono HBA.out.size)); have R7 := Lib.hid (show Rd2 w7 A7 1 (varLm (v)) from hw7.rd)
        have L7 := Lib.hid (fun (b : Nat) (hb : b ≤ _) => hw7.from_ hb (by omega))
        clear hl7 hw7 hc7 hb7
        go_wp2_with (first | (go_at_call 122; go_loud (refine (l18AbsT_c na (A7) (1) (c7) (varLm v) U _ (by exact R7.out) HU.out (by omega) (by omega)).mono ?_; rintro e w8 ⟨A8, c8, rfl, hl8, hw8, hc8, hb8⟩; have E8 := Lib.hid ((E7.out).trans (hb8.mono (E7.out).size)); have W8 := Lib.hid (hw8.wider (lo' := w.heap.size) (E7.out).size (Nat.le_refl _)); have C8 := Lib.hid hc8; clear hl8 hw8 hc8 hb8)) | (go_at_call 79; refine (l12Is_c A8 U.length c8 U q _ W8.out.rd (by omega) HQ.out).mono ?_; rintro e w9 ⟨rfl, hb9⟩; have E9 := Lib.hid (E8.out.trans (hb9.mono E8.out.size)); have W9 := Lib.hid ((W8.out.below hb9).wider (Nat.le_refl _) hb9.size); clear hb9))
        refine bodyPost_ret (v := .tuple #[.slice A8 U.length c8, .bool q]) (by simp [results, Tryz.results77, go_sem]) rfl ?_
        rw [← HRES.out]
        cases q
        · exact TrS.no E9.out
        · exact TrS.yes W9.out C8.out E9.out
      | rep h0 ha hi t u ht h1 h2 =>
        simp only at h0 ha hi
        subst h0 hi
        have h2i : 2 ≤ i := by rw [← HTS.out, ht]; exact Nat.le_refl _
        obtain ⟨na, rfl⟩ : ∃ na : Nat, a = (na : Int) := ⟨a.toNat, by omega⟩
        have hna : 1 ≤ na ∧ na ≤ 3 := by omega
        clear ht h1 h2 q2 ha
        obtain ⟨pd, A0, c0, T0, rfl, hp0, hcc0, hr0⟩ := hO.out.get (j := 0) (by omega)
        obtain ⟨gp, rfl⟩ : ∃ gp, pd = ⟨gp, 0, none⟩ := ⟨_, (hO.out.own.block rfl).2.2.1⟩
        obtain ⟨pd', A1, c1, T1, e1, hp1, hcc1, hr1⟩ := hO.out.get (j := 1) (by omega)
        injection e1 with e1; subst e1
        rw [addrZf] at hcc0
        rw [head_add] at hcc1
        have hL0 : L[0]? = some T0 := by rw [← HPL.out, List.getElem?_map, hp0]; rfl
        have hL1 : L[1]? = some T1 := by rw [← HPL.out, List.getElem?_map, hp1]; rfl
        have ht0 : T0.length ≤ 400 := HLE.out T0 (List.mem_of_getElem? hL0)
        have ht1 : T1.length ≤ 400 := HLE.out T1 (List.mem_of_getElem? hL1)
        obtain ⟨TK, hTK⟩ : ∃ T, appLm sucLm [varLm 1] = T := ⟨_, rfl⟩
        obtain ⟨TP, hTP⟩ : ∃ T, appLm T1 ([varLm 1, varLm 0] ++ vsLm na 1 3) = T := ⟨_, rfl⟩
        obtain ⟨TI, hTI⟩ : ∃ T, appLm (varLm 2) [TK, TP] = T := ⟨_, rfl⟩
        obtain ⟨TA, hTA⟩ : ∃ T, absLm 3 TI = T := ⟨_, rfl⟩
        obtain ⟨TB, hTB⟩ : ∃ T, appLm T0 (vsLm na 1 0) = T := ⟨_, rfl⟩
        obtain ⟨T, hT⟩ : ∃ T, appLm (varLm ((na : Int) - 1)) [TA, falLm, numLm 0, TB] = T := ⟨_, rfl⟩
        have HU := Lib.hid (show absLm na T = U by
          have e0 : L.getD 0 [] = T0 := by rw [List.getD_eq_getElem?_getD, hL0]; rfl
          have e1 : L.getD 1 [] = T1 := by rw [List.getD_eq_getElem?_getD, hL1]; rfl
          have e2 : stepLm na T1 = TA := by rw [← hTA, ← hTI, ← hTK, ← hTP]; rfl
          rw [← HU0.out, outLm, bod_rep rfl]
          show absLm na T = absLm na (appLm (varLm ((na : Int) - 1)) [stepLm na (L.getD 1 []), falLm, numLm 0, appLm (L.getD 0 []) (vsLm na 1 0)])
          rw [e0, e1, e2, hTB, hT])
        have hTb : T.length ≤ 3000 := by have h9 : U.length = na + T.length := by rw [← HU.out, absLm_len]
                                         omega
        have hTs : TA.length ≤ 3000 ∧ TB.length ≤ 3000 := by rw [← hT, app4_len] at hTb; omega
        have hTi : TI.length ≤ 3000 := by rw [← hTA, absLm_len] at hTs; omega
        have hTk : TK.length ≤ 3000 ∧ TP.length ≤ 3000 := by rw [← hTI, app2_len] at hTi; omega
        have HTK := Lib.hid hTK; have HTP := Lib.hid hTP; have HTI := Lib.hid hTI; have HTA := Lib.hid hTA; have HTB := Lib.hid hTB; have HT := Lib.hid hT
        have R0 := Lib.hid hr0; have HC0 := Lib.hid hcc0; have R1 := Lib.hid hr1; have HC1 := Lib.hid hcc1
        have HCF := Lib.hid (fun w => l12Read_fal w)
        rw [show bs falTx = ⟨#[94, 94, 48]⟩ from rfl] at HCF
        have v1 : IntKind.i64.wrap ((na : Int) - 1) = (na : Int) - 1 := IntWalk.i64_in _ (by omega)
        have DA := Lib.hid (show Below wr.heap.size wr (wr.alloc (.cells #[] 62)) from below_size.alloc (Nat.le_refl _) _)
        clear hTK hTP hTI hTA hTB hT hr0 hr1 hp0 hp1 hcc0 hcc1 hL0 hL1
        go_wp2_with fail
        refine (l18Var_c (1) _).mono ?_
        rintro e w3 ⟨A3, c3, rfl, hl3, hw3, hc3, hb3⟩
        have D3 := Lib.hid hb3; have E3 := Lib.hid (HBA.out.trans (hb3.mono HBA.out.size)); have R3 := Lib.hid (show Rd2 w3 A3 1 (varLm (1)) from hw3.rd)
        have L3 := Lib.hid (fun (b : Nat) (hb : b ≤ _) => hw3.from_ hb (by omega))
        clear hl3 hw3 hc3 hb3
        have D3b := Lib.hid (DA.out.trans (D3.out.mono DA.out.size))
        go_wp2_with fail
        refine (l18Var_c (0) _).mono ?_
        rintro e w4 ⟨A4, c4, rfl, hl4, hw4, hc4, hb4⟩
        have D4 := Lib.hid hb4; have E4 := Lib.hid (E3.out.trans (hb4.mono E3.out.size)); have R4 := Lib.hid (show Rd2 w4 A4 1 (varLm (0)) from hw4.rd)
        have L4 := Lib.hid (fun (b : Nat) (hb : b ≤ _) => hw4.from_ hb (by omega))
        clear hl4 hw4 hc4 hb4
        have D4b := Lib.hid (D3b.out.trans (D4.out.mono D3b.out.size))
        have z3 := D3b.out.size; have z4 := D4b.out.size; have za : wr.heap.size ≤ (wr.alloc (.cells #[] 62)).heap.size := DA.out.size
        have SL := Lib.hid (LmS.lit2 (e := 25) (B := wr.heap.size) (c1 := c3) (c2 := c4) (R3.out.below D4.out) R4.out (L3.out _ za) (L4.out _ z3) z4)
        have EL := Lib.hid (E4.out.alloc E4.out.size (.cells #[.slice A3 1 c3, .slice A4 1 c4] 25))
        have DL := Lib.hid (D4b.out.alloc z4 (.cells #[.slice A3 1 c3, .slice A4 1 c4] 25))
        go_wp2_with fail
        refine (l18Vars13_c na _ (by omega) hna.1).mono ?_
        rintro e w5 ⟨G, gc, qs, rfl, hl5, hm5, hb5⟩
        have D5 := Lib.hid (DL.out.trans (hb5.mono DL.out.size)); have E5 := Lib.hid (EL.out.trans (hb5.mono EL.out.size))
        have Q5 := Lib.hid hl5; have HM5 := Lib.hid hm5; have S5 := Lib.hid (SL.out.keep hb5); have z5 := D5.out.size
        have hq4 : w4.heap.size < (w4.alloc (.cells #[.slice A3 1 c3, .slice A4 1 c4] 25)).heap.size := by rw [World.size_alloc]; omega
        have hq5 : wr.heap.size ≤ (w4.alloc (.cells #[.slice A3 1 c3, .slice A4 1 c4] 25)).heap.size := by omega
        clear hl5 hm5 hb5
        go_wp2_with (at_builtin; refine wp_appTm (by rfl) _ _ (by rfl) wr.heap.size (some ⟨w4.heap.size, 0, none⟩) 2 2 [⟨A3, c3, varLm 1⟩, ⟨A4, c4, varLm 0⟩] (by rfl) (by exact S5.out) _ G (na - 1) gc qs (by rfl) (by exact Q5.out) (by exact Q5.out.above hq4) hq5 (by omega) z5 ?_; intro A6 c6 w6 l6 hb6; have E6 := Lib.hid (E5.out.trans (hb6.mono hwz)); have D6 := Lib.hid (D5.out.trans hb6); have V6 := Lib.hid l6.rdV; have HV6 := Lib.hid (show appLm T1 (([⟨A3, c3, varLm 1⟩, ⟨A4, c4, varLm 0⟩] ++ qs : List Tm).map Tm.t) = TP by rw [List.map_append, HM5.out]; exact HTP.out); have x0 := Ext.cell (show w6.cell? ⟨gp, 1, none⟩ = some (.slice A1 T1.length c1) from keepc D6.out HC1.out); clear l6 hb6)
        have z6 := D6.out.size
        refine Mix.wp_region_mix [1, 1, 1, 1, 1, 0, 0, 3, 0, 1, 1, 1, 0] (fun w' => ∃ x : Ext w6, w' = x.w) (by kernel_rfl) (by kernel_rfl) (InExt.drew _) ?_
        refine Mix.wpMix_chg (by rfl) (fun K hK => ?_)
        go_wp2_with fail
        refine (l18Var_c 2 _).mono ?_
        rintro e w7 ⟨A7, c7, rfl, hl7, hw7, hc7, hb7⟩
        have F7 := Lib.hid (below_of_drew hb7); have D7 := Lib.hid F7.out
        have R7 := Lib.hid (show Rd2 w7 A7 (1) (varLm 2) from hw7.rd); have z7 := F7.out.size
        clear hl7 hw7 hc7 hb7
        go_wp2_with fail
        refine hK _ _ ⟨⟨_, F7.out⟩, rfl⟩ ?_
        clear hK K
        refine Mix.wpMix_chg (by rfl) (fun K hK => ?_)
        go_wp2_with fail
        refine (l18Next_c _).mono ?_
        rintro e w8 ⟨A8, c8, rfl, hl8, hw8, hc8, hb8⟩
        have D8 := Lib.hid hb8; have F8 := Lib.hid (below_chain (F7.out) (F7.out).size hb8)
        have R8 := Lib.hid (show Rd2 w8 A8 (10) (sucLm) from hw8.rd); have z8 := F8.out.size
        clear hl8 hw8 hc8 hb8
        go_wp2_with fail
        refine hK _ _ ⟨⟨_, F8.out⟩, rfl⟩ ?_
        clear hK K
        refine Mix.wpMix_chg (by rfl) (fun K hK => ?_)
        go_wp2_with fail
        refine (l18Var_c 1 _).mono ?_
        rintro e w9 ⟨A9, c9, rfl, hl9, hw9, hc9, hb9⟩
        have D9 := Lib.hid hb9; have F9 := Lib.hid (below_chain (F8.out) (F8.out).size hb9)
        have R9 := Lib.hid (show Rd2 w9 A9 (1) (varLm 1) from hw9.rd); have z9 := F9.out.size
        clear hl9 hw9 hc9 hb9
        go_wp2_with fail
        refine hK _ _ ⟨⟨_, F9.out⟩, rfl⟩ ?_
        clear hK K
        refine Mix.wpMix_chg (by rfl) (fun K hK => ?_)
        go_wp2_with fail
        refine hK _ _ ⟨⟨_, F9.out.alloc z9 _⟩, rfl⟩ ?_
        clear hK K
        have B9 := Lib.hid (F9.out.alloc z9 (.cells #[.slice A9 1 c9] 25))
        refine Mix.wpMix_chg (by rfl) (fun K hK => ?_)
        go_wp2_with fail
        refine (l12ApplyT_c A8 10 c8 sucLm (some ⟨w9.heap.size, 0, none⟩) 1 1 TK.length [⟨A9, c9, varLm 1⟩] TK _ ((R8.out.below D9.out).alloc _) (tm1 R9.out) (by omega) HTK.out rfl (by omega)).mono ?_
        rintro e w10 ⟨A10, c10, rfl, hl10, hw10, hc10, hb10⟩
        have D10 := Lib.hid hb10; have F10 := Lib.hid (below_chain (B9.out) (B9.out).size hb10)
        have R10 := Lib.hid (show Rd2 w10 A10 (TK.length) (TK) from hw10.rd); have z10 := F10.out.size
        clear hl10 hw10 hc10 hb10
        go_wp2_with fail
        refine hK _ _ ⟨⟨_, F10.out⟩, rfl⟩ ?_
        clear hK K
        repeat (first | (refine Mix.wpMix_read (by rfl) ?_; go_big_quiet_step (fail); refine wpQuiet_nil ?_) | (refine Mix.wpMix_pure (by rfl) ?_; go_big_quiet_step (fail); refine wpQuiet_nil ?_))
        refine Mix.wpMix_chg (by rfl) (fun K hK => ?_)
        go_wp2_with fail
        refine (l12ApplyT_c A1 T1.length c1 T1 A6 (2 + (na - 1)) c6 TP.length _ TP _ (R1.out.below (D6.out.trans (F10.out.mono z6))) (V6.out.below F10.out) (by omega) HV6.out rfl (by omega)).mono ?_
        rintro e w11 ⟨A11, c11, rfl, hl11, hw11, hc11, hb11⟩
        have D11 := Lib.hid hb11; have F11 := Lib.hid (below_chain (F10.out) (F10.out).size hb11)
        have R11 := Lib.hid (show Rd2 w11 A11 (TP.length) (TP) from hw11.rd); have z11 := F11.out.size
        clear hl11 hw11 hc11 hb11
        go_wp2_with fail
        refine hK _ _ ⟨⟨_, F11.out⟩, rfl⟩ ?_
        clear hK K
        refine Mix.wpMix_chg (by rfl) (fun K hK => ?_)
        go_wp2_with fail
        refine hK _ _ ⟨⟨_, F11.out.alloc z11 _⟩, rfl⟩ ?_
        clear hK K
        have B11 := Lib.hid (F11.out.alloc z11 (.cells #[.slice A10 TK.length c10, .slice A11 TP.length c11] 25))
        have R7b := Lib.hid ((((((R7.out.below D8.out).below D9.out).alloc (.cells #[.slice A9 1 c9] 25)).below D10.out).below D11.out).alloc (.cells #[.slice A10 TK.length c10, .slice A11 TP.length c11] 25))
        refine Mix.wpMix_chg (by rfl) (fun K hK => ?_)
        go_wp2_with fail
        refine (l12ApplyT_c A7 1 c7 (varLm 2) (some ⟨w11.heap.size, 0, none⟩) 2 2 TI.length [⟨A10, c10, TK⟩, ⟨A11, c11, TP⟩] TI _ R7b.out (tm2 (R10.out.below D11.out) R11.out) (by omega) HTI.out rfl (by omega)).mono ?_
        rintro e w12 ⟨A12, c12, rfl, hl12, hw12, hc12, hb12⟩
        have D12 := Lib.hid hb12; have F12 := Lib.hid (below_chain (B11.out) (B11.out).size hb12)
        have R12 := Lib.hid (show Rd2 w12 A12 (TI.length) (TI) from hw12.rd); have z12 := F12.out.size
        clear hl12 hw12 hc12 hb12
        go_wp2_with fail
        refine hK _ _ ⟨⟨_, F12.out⟩, rfl⟩ ?_
        clear hK K
        repeat (first | (refine Mix.wpMix_read (by rfl) ?_; go_big_quiet_step (fail); refine wpQuiet_nil ?_) | (refine Mix.wpMix_pure (by rfl) ?_; go_big_quiet_step (fail); refine wpQuiet_nil ?_))
        (refine Mix.wpMix_nil ?_; try simp only [Exit.then])
        have G12 := Lib.hid (D6.out.trans (F12.out.mono z6)); have E12 := Lib.hid (E6.out.trans (F12.out.mono E6.out.size))
        have zr12 := G12.out.size
        have x1 := Ext.cell (show w12.cell? ⟨gp, 0, none⟩ = some (.slice A0 T0.length c0) from keepc G12.out HC0.out)
        clear x0
        go_wp2_with fail
        refine Mix.wp_region_mix [0, 0, 3, 0, 1, 1, 0] (fun w' => ∃ x : Ext w12, w' = x.w) (by kernel_rfl) (by kernel_rfl) (InExt.drew _) ?_
        repeat (first | (refine Mix.wpMix_read (by rfl) ?_; go_big_quiet_step (fail); refine wpQuiet_nil ?_) | (refine Mix.wpMix_pure (by rfl) ?_; go_big_quiet_step (fail); refine wpQuiet_nil ?_))
        refine Mix.wpMix_chg (by rfl) (fun K hK => ?_)
        go_wp2_with fail
        refine (l18Vars10_c na _ (by omega) hna.1).mono ?_
        rintro e w13 ⟨G', gc', qs', rfl, hl13, hm13, hb13⟩
        have F13 := Lib.hid (below_of_drew hb13); have V13 := Lib.hid hl13.rdV
        have HT13 := Lib.hid (show appLm T0 (qs'.map Tm.t) = TB by rw [hm13]; exact HTB.out)
        clear hl13 hm13 hb13
        go_wp2_with fail
        refine hK _ _ ⟨⟨_, F13.out⟩, rfl⟩ ?_
        clear hK K
        repeat (first | (refine Mix.wpMix_read (by rfl) ?_; go_big_quiet_step (fail); refine wpQuiet_nil ?_) | (refine Mix.wpMix_pure (by rfl) ?_; go_big_quiet_step (fail); refine wpQuiet_nil ?_))
        refine Mix.wpMix_chg (by rfl) (fun K hK => ?_)
        go_wp2_with fail
        refine (l12ApplyT_c A0 T0.length c0 T0 G' (na - 1) gc' TB.length qs' TB _ (R0.out.below (G12.out.trans (F13.out.mono zr12))) V13.out (by omega) HT13.out rfl (by omega)).mono ?_
        rintro e w14 ⟨A14, c14, rfl, hl14, hw14, hc14, hb14⟩
        have D14 := Lib.hid hb14; have F14 := Lib.hid (below_chain (F13.out) (F13.out).size hb14)
        have R14 := Lib.hid (show Rd2 w14 A14 (TB.length) (TB) from hw14.rd); have z14 := F14.out.size
        clear hl14 hw14 hc14 hb14
        go_wp2_with fail
        refine hK _ _ ⟨⟨_, F14.out⟩, rfl⟩ ?_
        clear hK K
        repeat (first | (refine Mix.wpMix_read (by rfl) ?_; go_big_quiet_step (fail); refine wpQuiet_nil ?_) | (refine Mix.wpMix_pure (by rfl) ?_; go_big_quiet_step (fail); refine wpQuiet_nil ?_))
        (refine Mix.wpMix_nil ?_; try simp only [Exit.then])
        clear x1
        have E14 := Lib.hid (E12.out.trans (F14.out.mono E12.out.size))
        have R12b := Lib.hid (R12.out.below F14.out)
        go_wp2_with fail
        refine (l18Var_c ((na : Int) - 1) _).mono ?_
        rintro e w15 ⟨A15, c15, rfl, hl15, hw15, hc15, hb15⟩
        have D15 := Lib.hid hb15; have E15 := Lib.hid (E14.out.trans (hb15.mono E14.out.size)); have R15 := Lib.hid (show Rd2 w15 A15 1 (varLm ((na : Int) - 1)) from hw15.rd)
        have L15 := Lib.hid (fun (b : Nat) (hb : b ≤ _) => hw15.from_ hb (by omega))
        clear hl15 hw15 hc15 hb15
        go_wp2_with fail
        refine (l18Abs3_c A12 TI.length c12 TI TA _ (R12b.out.below D15.out) HTA.out (by omega)).mono ?_
        rintro e w16 ⟨A16, c16, rfl, hl16, hw16, hc16, hb16⟩
        have D16 := Lib.hid hb16; have E16 := Lib.hid ((E15.out).trans (hb16.mono (E15.out).size)); have R16 := Lib.hid (show Rd2 w16 A16 (TA.length) (TA) from hw16.rd); have z16 := E16.out.size
        clear hl16 hw16 hc16 hb16
        go_wp2_with fail
        refine (HCF.out _).mono ?_
        rintro e w17 ⟨A17, c17, rfl, hl17, hw17, hc17, hb17⟩
        have D17 := Lib.hid hb17; have E17 := Lib.hid ((E16.out).trans (hb17.mono (E16.out).size)); have R17 := Lib.hid (show Rd2 w17 A17 (3) (falLm) from hw17.rd); have z17 := E17.out.size
        clear hl17 hw17 hc17 hb17
        go_wp2_with fail
        refine (l12Numeral0_c _).mono ?_
        rintro e w18 ⟨A18, c18, rfl, hl18, hw18, hc18, hb18⟩
        have D18 := Lib.hid hb18; have E18 := Lib.hid ((E17.out).trans (hb18.mono (E17.out).size)); have R18 := Lib.hid (show Rd2 w18 A18 (3) (numLm 0) from hw18.rd); have z18 := E18.out.size
        clear hl18 hw18 hc18 hb18
        have R15b := Lib.hid ((((R15.out.below D16.out).below D17.out).below D18.out).alloc (.cells #[.slice A16 TA.length c16, .slice A17 3 c17, .slice A18 3 c18, .slice A14 TB.length c14] 25))
        have R14b := Lib.hid ((((R14.out.below D15.out).below D16.out).below D17.out).below D18.out)
        have R16b := Lib.hid ((R16.out.below D17.out).below D18.out)
        have E18b := Lib.hid (E18.out.alloc E18.out.size (.cells #[.slice A16 TA.length c16, .slice A17 3 c17, .slice A18 3 c18, .slice A14 TB.length c14] 25))
        go_wp2_with fail
        refine (l12ApplyT_c (A15) (1) (c15) (varLm ((na : Int) - 1)) (some ⟨w18.heap.size, 0, none⟩) (4) (4) T.length ([⟨A16, c16, TA⟩, ⟨A17, c17, falLm⟩, ⟨A18, c18, numLm 0⟩, ⟨A14, c14, TB⟩]) T _ (R15b.out) (tm4 R16b.out (R17.out.below D18.out) R18.out R14b.out) (by omega) (HT.out) rfl (by omega)).mono ?_
        rintro e w19 ⟨A19, c19, rfl, hl19, hw19, hc19, hb19⟩
        have D19 := Lib.hid hb19; have E19 := Lib.hid ((E18b.out).trans (hb19.mono (E18b.out).size)); have R19 := Lib.hid (show Rd2 w19 A19 (T.length) (T) from hw19.rd); have z19 := E19.out.size
        clear hl19 hw19 hc19 hb19
        go_wp2_with (first | (go_at_call 122; go_loud (refine (l18AbsT_c na (A19) (T.length) (c19) (T) U _ (by exact R19.out) HU.out (by omega) (by omega)).mono ?_; rintro e w8 ⟨A8, c8, rfl, hl8, hw8, hc8, hb8⟩; have E8 := Lib.hid ((E19.out).trans (hb8.mono (E19.out).size)); have W8 := Lib.hid (hw8.wider (lo' := w.heap.size) (E19.out).size (Nat.le_refl _)); have C8 := Lib.hid hc8; clear hl8 hw8 hc8 hb8)) | (go_at_call 79; refine (l12Is_c A8 U.length c8 U q _ W8.out.rd (by omega) HQ.out).mono ?_; rintro e w9 ⟨rfl, hb9⟩; have E9 := Lib.hid (E8.out.trans (hb9.mono E8.out.size)); have W9 := Lib.hid ((W8.out.below hb9).wider (Nat.le_refl _) hb9.size); clear hb9))
        refine bodyPost_ret (v := .tuple #[.slice A8 U.length c8, .bool q]) (by simp [results, Tryz.results77, go_sem]) rfl ?_
        rw [← HRES.out]
        cases q
        · exact TrS.no E9.out
        · exact TrS.yes W9.out C8.out E9.out
      | least h0 ha hi t ht h1 =>
        simp only at h0 ha hi
        subst h0 hi
        have h1i : 1 ≤ i := by rw [← HTS.out, ht]; exact Nat.le_refl _
        obtain ⟨na, rfl⟩ : ∃ na : Nat, a = (na : Int) := ⟨a.toNat, by omega⟩
        have hna : na ≤ 3 := by omega
        clear ht h1 q2 ha
        obtain ⟨pd, A0, c0, T0, rfl, hp0, hcc0, hr0⟩ := hO.out.get (j := 0) (by omega)
        obtain ⟨gp, rfl⟩ : ∃ gp, pd = ⟨gp, 0, none⟩ := ⟨_, (hO.out.own.block rfl).2.2.1⟩
        rw [addrZf] at hcc0
        have hL0 : L[0]? = some T0 := by rw [← HPL.out, List.getElem?_map, hp0]; rfl
        have ht0 : T0.length ≤ 400 := HLE.out T0 (List.mem_of_getElem? hL0)
        obtain ⟨TV, hTV⟩ : ∃ T, appLm T0 (varLm 0 :: vsLm na 0 2) = T := ⟨_, rfl⟩
        obtain ⟨TN, hTN⟩ : ∃ T, appLm sucLm [varLm 1] = T := ⟨_, rfl⟩
        obtain ⟨TG, hTG⟩ : ∃ T, appLm (varLm 2) [varLm 2, TN] = T := ⟨_, rfl⟩
        obtain ⟨TH, hTH⟩ : ∃ T, absLm 1 TG = T := ⟨_, rfl⟩
        obtain ⟨TX, hTX⟩ : ∃ T, appLm TV [TH, varLm 0] = T := ⟨_, rfl⟩
        obtain ⟨TW, hTW⟩ : ∃ T, absLm 2 TX = T := ⟨_, rfl⟩
        obtain ⟨T, hT⟩ : ∃ T, appLm TW [TW, numLm 0] = T := ⟨_, rfl⟩
        have HU := Lib.hid (show absLm na T = U by
          have e0 : L.getD 0 [] = T0 := by rw [List.getD_eq_getElem?_getD, hL0]; rfl
          have e2 : loopLm na T0 = TW := by rw [← hTW, ← hTX, ← hTH, ← hTG, ← hTN, ← hTV]; rfl
          rw [← HU0.out, outLm, bod_least rfl]
          show absLm na T = absLm na (appLm (loopLm na (L.getD 0 [])) [loopLm na (L.getD 0 []), numLm 0])
          rw [e0, e2, hT])
        have hTb : T.length ≤ 3000 := by have h9 : U.length = na + T.length := by rw [← HU.out, absLm_len]
                                         omega
        have hTw : TW.length ≤ 3000 := by rw [← hT, app2_len] at hTb; omega
        have hTx : TX.length ≤ 3000 := by rw [← hTW, absLm_len] at hTw; omega
        have hTv : TV.length ≤ 3000 ∧ TH.length ≤ 3000 := by rw [← hTX, app2_len] at hTx; omega
        have hTg : TG.length ≤ 3000 := by have h9 := hTv.2; rw [← hTH, absLm_len] at h9; omega
        have hTn : TN.length ≤ 3000 := by rw [← hTG, app2_len] at hTg; omega
        have HTV := Lib.hid hTV; have HTN := Lib.hid hTN; have HTG := Lib.hid hTG; have HTH := Lib.hid hTH; have HTX := Lib.hid hTX; have HTW := Lib.hid hTW; have HT := Lib.hid hT
        have R0 := Lib.hid hr0; have HC0 := Lib.hid hcc0
        clear hTV hTN hTG hTH hTX hTW hT hr0 hp0 hL0
        obtain ⟨wb, hwb⟩ : ∃ wb, wr.alloc (.cells #[] 62) = wb := ⟨_, rfl⟩
        have DA := Lib.hid (show Below wr.heap.size wr wb by rw [← hwb]; exact below_size.alloc (Nat.le_refl _) _)
        have zb := DA.out.size
        rw [hwb] at q0 HBA hwa
        have HC0b := Lib.hid (show wb.cell? ⟨gp, 0, none⟩ = some (.slice A0 T0.length c0) from keepc DA.out hcc0)
        have EW : ∀ w1 : World, Below wb.drew.heap.size wb.drew w1 → Below wb.heap.size wb w1 := fun w1 hb => below_of_drew hb
        have R0b := Lib.hid (R0.out.below DA.out)
        clear hcc0
        go_wp2_with fail
        -- region lt34
        refine MixA.wp_facts 9 [141, 142, 143, 144, 145, 146, 147, 148, 149] [[], [0], [1], [], [3], [], [5], [4, 6], [2, 7]]
          [MixA.fP (.slice (some ⟨gp, 0, none⟩) i oc),
           MixA.fP (.pointer (some ⟨gp, 0, none⟩)),
           MixA.fP (.slice A0 T0.length c0),
           fTn 1 (varLm 0),
           fLf 1 [varLm 0],
           MixA.fP (.int .i64 (na : Int)),
           fLs na (vsLm na 0 2),
           fLs (1 + na) (varLm 0 :: vsLm na 0 2),
           fTn TV.length TV]
          (by kernel_rfl) (by kernel_rfl) (fun t ht => Nat.lt_of_lt_of_eq (show t < 176 by revert t; decide) rfl) ?_ ?_
        · intro f hf
          simp only [List.mem_cons, List.not_mem_nil, or_false] at hf
          rcases hf with rfl | rfl | rfl | rfl | rfl | rfl | rfl | rfl | rfl
          · exact MixA.fP_st _
          · exact MixA.fP_st _
          · exact MixA.fP_st _
          · exact fTn_st _ _
          · exact fLf_st _ _
          · exact MixA.fP_st _
          · exact fLs_st _ _
          · exact fLs_st _ _
          · exact fTn_st _ _
        simp only [MixA.EachF]
        refine ⟨?_, ?_, ?_, ?_, ?_, ?_, ?_, ?_, ?_, ?_⟩
        · intro a1 w1 hf
          refine MixA.hop ⟨#[undef, undef, undef, undef, undef, (.slice (some ⟨gp, 0, none⟩) i oc), undef, undef, undef, undef, undef, undef, undef, undef, undef, undef, undef, undef, undef, undef, undef, undef, undef, undef, undef, undef, undef, undef, undef, undef, undef, undef, undef, undef, undef, undef, undef, undef, undef, undef, undef, undef, undef, undef, undef, undef, undef, undef, undef, undef, undef, undef, undef, undef, undef, undef, undef, undef, undef, undef, undef, undef, undef, undef, undef, undef, undef, undef, undef, undef, undef, undef, undef, undef, undef, undef, undef, undef, undef, undef, undef, undef, undef, undef, undef, undef, undef, undef, undef, undef, undef, undef, undef, undef, undef, undef, undef, undef, undef, undef, undef, undef, undef, undef, undef, undef, undef, undef, undef, undef, undef, undef, undef, undef, undef, undef, undef, undef, undef, undef, undef, undef, undef, undef, undef, undef, undef, undef, undef, undef, undef, undef, undef, undef, undef, undef, undef, undef, undef, undef, undef, undef], []⟩ (by intro cs b e; cases e) rfl (show 141 < 142 by decide) ?_ ?_
          · intro x hx
            simp [Op.operands] at hx
            rcases hx with rfl
            · exact (hf.was (t := 5) (by decide) rfl).trans rfl
          go_wp2_with fail
          first | exact ⟨below_size, rfl⟩ | exact ⟨_, rfl, below_size, rfl⟩
        · intro a1 w1 hf
          refine MixA.hop ⟨#[undef, undef, undef, undef, undef, undef, undef, undef, undef, undef, undef, undef, undef, undef, undef, undef, undef, undef, undef, undef, undef, undef, undef, undef, undef, undef, undef, undef, undef, undef, undef, undef, undef, undef, undef, undef, undef, undef, undef, undef, undef, undef, undef, undef, undef, undef, undef, undef, undef, undef, undef, undef, undef, undef, undef, undef, undef, undef, undef, undef, undef, undef, undef, undef, undef, undef, undef, undef, undef, undef, undef, undef, undef, undef, undef, undef, undef, undef, undef, undef, undef, undef, undef, undef, undef, undef, undef, undef, undef, undef, undef, undef, undef, undef, undef, undef, undef, undef, undef, undef, undef, undef, undef, undef, undef, undef, undef, undef, undef, undef, undef, undef, undef, undef, undef, undef, undef, undef, undef, undef, undef, undef, undef, undef, undef, undef, undef, undef, undef, undef, undef, undef, undef, undef, undef, undef, undef, undef, undef, undef, undef, (.slice (some ⟨gp, 0, none⟩) i oc), undef], []⟩ (by intro cs b e; cases e) rfl (show 142 < 143 by decide) ?_ ?_
          · intro x hx
            simp [Op.operands] at hx
            rcases hx with rfl | rfl
            · exact (hf.pure (j := 0) (by decide) rfl).trans rfl
            · rfl
          go_wp2_with fail
          first | exact ⟨below_size, rfl⟩ | exact ⟨_, rfl, below_size, rfl⟩
        · intro a1 w1 hf
          have E1 := EW w1 hf.below
          have hc0 : w1.cell? ⟨gp, 0, none⟩ = some (.slice A0 T0.length c0) := keepc E1 HC0b.out
          clear E1
          refine MixA.hop ⟨#[undef, undef, undef, undef, undef, undef, undef, undef, undef, undef, undef, undef, undef, undef, undef, undef, undef, undef, undef, undef, undef, undef, undef, undef, undef, undef, undef, undef, undef, undef, undef, undef, undef, undef, undef, undef, undef, undef, undef, undef, undef, undef, undef, undef, undef, undef, undef, undef, undef, undef, undef, undef, undef, undef, undef, undef, undef, undef, undef, undef, undef, undef, undef, undef, undef, undef, undef, undef, undef, undef, undef, undef, undef, undef, undef, undef, undef, undef, undef, undef, undef, undef, undef, undef, undef, undef, undef, undef, undef, undef, undef, undef, undef, undef, undef, undef, undef, undef, undef, undef, undef, undef, undef, undef, undef, undef, undef, undef, undef, undef, undef, undef, undef, undef, undef, undef, undef, undef, undef, undef, undef, undef, undef, undef, undef, undef, undef, undef, undef, undef, undef, undef, undef, undef, undef, undef, undef, undef, undef, undef, undef, undef, (.pointer (some ⟨gp, 0, none⟩)), undef], []⟩ (by intro cs b e; cases e) rfl (show 143 < 144 by decide) ?_ ?_
          · intro x hx
            simp [Op.operands] at hx
            subst hx
            · exact (hf.pure (j := 1) (by decide) rfl).trans rfl
          go_wp2_with fail
          first | exact ⟨below_size, rfl⟩ | exact ⟨_, rfl, below_size, rfl⟩
        · intro a1 w1 hf
          refine MixA.hop ⟨#[undef, undef, undef, undef, undef, undef, undef, undef, undef, undef, undef, undef, undef, undef, undef, undef, undef, undef, undef, undef, undef, undef, undef, undef, undef, undef, undef, undef, undef, undef, undef, undef, undef, undef, undef, undef, undef, undef, undef, undef, undef, undef, undef, undef, undef, undef, undef, undef, undef, undef, undef, undef, undef, undef, undef, undef, undef, undef, undef, undef, undef, undef, undef, undef, undef, undef, undef, undef, undef, undef, undef, undef, undef, undef, undef, undef, undef, undef, undef, undef, undef, undef, undef, undef, undef, undef, undef, undef, undef, undef, undef, undef, undef, undef, undef, undef, undef, undef, undef, undef, undef, undef, undef, undef, undef, undef, undef, undef, undef, undef, undef, undef, undef, undef, undef, undef, undef, undef, undef, undef, undef, undef, undef, undef, undef, undef, undef, undef, undef, undef, undef, undef, undef, undef, undef, undef, undef, undef, undef, undef, undef, undef, undef, undef, undef], []⟩ (by intro cs b e; cases e) rfl (show 144 < 145 by decide) ?_ ?_
          · intro x hx
            simp [Op.operands, Call.operands] at hx
            rcases hx with rfl | rfl
            · rfl
            · rfl
          go_wp2_with fail
          refine (l18Var_c 0 _).mono ?_
          rintro e' w2 ⟨A2, c2, rfl, hl2, hw2, hc2, hb2⟩
          have W2 := Lib.hid (show Rd2 w2 A2 1 (varLm 0) from hw2.rd); have B2 := Lib.hid hb2
          clear hl2 hw2 hc2 hb2
          go_wp2_with fail
          first | exact ⟨B2.out, A2, c2, rfl, W2.out⟩ | exact ⟨_, rfl, B2.out, A2, c2, rfl, W2.out⟩
        · intro a1 w1 hf
          obtain ⟨R, hR, _⟩ := hf.facts
          obtain ⟨A144, c144, hv144, h144⟩ : fTn 1 (varLm 0) [] (MixA.val a1 144) (R 3).1 (R 3).2 w1 := (hR 3 (by decide)).1
          have HQ := Lib.hid h144
          clear hR h144
          refine MixA.hop ⟨#[undef, undef, undef, undef, undef, undef, undef, undef, undef, undef, undef, undef, undef, undef, undef, undef, undef, undef, undef, undef, undef, undef, undef, undef, undef, undef, undef, undef, undef, undef, undef, undef, undef, undef, undef, undef, undef, undef, undef, undef, undef, undef, undef, undef, undef, undef, undef, undef, undef, undef, undef, undef, undef, undef, undef, undef, undef, undef, undef, undef, undef, undef, undef, undef, undef, undef, undef, undef, undef, undef, undef, undef, undef, undef, undef, undef, undef, undef, undef, undef, undef, undef, undef, undef, undef, undef, undef, undef, undef, undef, undef, undef, undef, undef, undef, undef, undef, undef, undef, undef, undef, undef, undef, undef, undef, undef, undef, undef, undef, undef, undef, undef, undef, undef, undef, undef, undef, undef, undef, undef, undef, undef, undef, undef, undef, undef, undef, undef, undef, undef, undef, undef, undef, undef, undef, undef, undef, undef, undef, undef, undef, undef, undef, undef, (.slice A144 1 c144), undef], []⟩ (by intro cs b e; cases e) rfl (show 145 < 146 by decide) ?_ ?_
          · intro x hx
            simp [Op.operands] at hx
            subst hx
            · exact hv144.trans rfl
          go_wp2_with fail
          first | exact ⟨below_size.alloc (Nat.le_refl _) _, _, _, rfl, tm1 HQ.out, rfl⟩ | exact ⟨_, rfl, below_size.alloc (Nat.le_refl _) _, _, _, rfl, tm1 HQ.out, rfl⟩
        · intro a1 w1 hf
          refine MixA.hop ⟨#[undef, undef, undef, undef, (.int .i64 (na : Int)), undef, undef, undef, undef, undef, undef, undef, undef, undef, undef, undef, undef, undef, undef, undef, undef, undef, undef, undef, undef, undef, undef, undef, undef, undef, undef, undef, undef, undef, undef, undef, undef, undef, undef, undef, undef, undef, undef, undef, undef, undef, undef, undef, undef, undef, undef, undef, undef, undef, undef, undef, undef, undef, undef, undef, undef, undef, undef, undef, undef, undef, undef, undef, undef, undef, undef, undef, undef, undef, undef, undef, undef, undef, undef, undef, undef, undef, undef, undef, undef, undef, undef, undef, undef, undef, undef, undef, undef, undef, undef, undef, undef, undef, undef, undef, undef, undef, undef, undef, undef, undef, undef, undef, undef, undef, undef, undef, undef, undef, undef, undef, undef, undef, undef, undef, undef, undef, undef, undef, undef, undef, undef, undef, undef, undef, undef, undef, undef, undef, undef, undef, undef, undef, undef, undef, undef, undef, undef, undef, undef, undef, undef], []⟩ (by intro cs b e; cases e) rfl (show 146 < 147 by decide) ?_ ?_
          · intro x hx
            simp [Op.operands] at hx
            rcases hx with rfl
            · exact (hf.was (t := 4) (by decide) rfl).trans rfl
          go_wp2_with fail
          first | exact ⟨below_size, rfl⟩ | exact ⟨_, rfl, below_size, rfl⟩
        · intro a1 w1 hf
          refine MixA.hop ⟨#[undef, undef, undef, undef, undef, undef, undef, undef, undef, undef, undef, undef, undef, undef, undef, undef, undef, undef, undef, undef, undef, undef, undef, undef, undef, undef, undef, undef, undef, undef, undef, undef, undef, undef, undef, undef, undef, undef, undef, undef, undef, undef, undef, undef, undef, undef, undef, undef, undef, undef, undef, undef, undef, undef, undef, undef, undef, undef, undef, undef, undef, undef, undef, undef, undef, undef, undef, undef, undef, undef, undef, undef, undef, undef, undef, undef, undef, undef, undef, undef, undef, undef, undef, undef, undef, undef, undef, undef, undef, undef, undef, undef, undef, undef, undef, undef, undef, undef, undef, undef, undef, undef, undef, undef, undef, undef, undef, undef, undef, undef, undef, undef, undef, undef, undef, undef, undef, undef, undef, undef, undef, undef, undef, undef, undef, undef, undef, undef, undef, undef, undef, undef, undef, undef, undef, undef, undef, undef, undef, undef, undef, undef, undef, undef, undef, undef, (.int .i64 (na : Int)), undef], []⟩ (by intro cs b e; cases e) rfl (show 147 < 148 by decide) ?_ ?_
          · intro x hx
            simp [Op.operands, Call.operands] at hx
            rcases hx with rfl | rfl | rfl | rfl
            · rfl
            · rfl
            · exact (hf.pure (j := 5) (by decide) rfl).trans rfl
            · rfl
          go_wp2_with fail
          refine (l18Vars02_c na _ (by omega)).mono ?_
          rintro e' w2 ⟨A2, c2, ps2, rfl, hl2, hm2, hb2⟩
          have W2 := Lib.hid hl2.rdV; have B2 := Lib.hid hb2; have M2 := Lib.hid hm2
          clear hl2 hm2 hb2
          go_wp2_with fail
          first | exact ⟨B2.out, A2, c2, ps2, rfl, W2.out, M2.out⟩ | exact ⟨_, rfl, B2.out, A2, c2, ps2, rfl, W2.out, M2.out⟩
        · intro a1 w1 hf
          obtain ⟨R, hR, _⟩ := hf.facts
          obtain ⟨A145, ps145, hv145, h145, m145⟩ : fLf 1 [varLm 0] [] (MixA.val a1 145) (R 4).1 (R 4).2 w1 := (hR 4 (by decide)).1
          obtain ⟨A147, c147, ps147, hv147, h147, m147⟩ : fLs na (vsLm na 0 2) [] (MixA.val a1 147) (R 6).1 (R 6).2 w1 := (hR 6 (by decide)).1
          clear hR
          refine MixA.hop ⟨#[undef, undef, undef, undef, undef, undef, undef, undef, undef, undef, undef, undef, undef, undef, undef, undef, undef, undef, undef, undef, undef, undef, undef, undef, undef, undef, undef, undef, undef, undef, undef, undef, undef, undef, undef, undef, undef, undef, undef, undef, undef, undef, undef, undef, undef, undef, undef, undef, undef, undef, undef, undef, undef, undef, undef, undef, undef, undef, undef, undef, undef, undef, undef, undef, undef, undef, undef, undef, undef, undef, undef, undef, undef, undef, undef, undef, undef, undef, undef, undef, undef, undef, undef, undef, undef, undef, undef, undef, undef, undef, undef, undef, undef, undef, undef, undef, undef, undef, undef, undef, undef, undef, undef, undef, undef, undef, undef, undef, undef, undef, undef, undef, undef, undef, undef, undef, undef, undef, undef, undef, undef, undef, undef, undef, undef, undef, undef, undef, undef, undef, undef, undef, undef, undef, undef, undef, undef, undef, undef, undef, undef, undef, undef, undef, undef, (.slice A145 1 1), undef, (.slice A147 na c147), undef], []⟩ (by intro cs b e; cases e) rfl (show 148 < 149 by decide) ?_ ?_
          · intro x hx
            simp [Op.operands, Call.operands] at hx
            rcases hx with rfl | rfl
            · exact hv145.trans rfl
            · exact hv147.trans rfl
          refine wpo_appTmF _ _ rfl A145 1 ps145 (by rfl) h145 (by omega) A147 na c147 ps147 (by rfl) h147 (by omega) ?_
          intro A2 c2 w2 h2 hb2
          first | exact ⟨_, rfl, hb2, A2, c2, ps145 ++ ps147, rfl, h2, by rw [List.map_append, m145, m147]; rfl⟩ | exact ⟨hb2, A2, c2, ps145 ++ ps147, rfl, h2, by rw [List.map_append, m145, m147]; rfl⟩
        · intro a1 w1 hf
          have E1 := EW w1 hf.below
          have R1 := Lib.hid (R0b.out.below E1)
          obtain ⟨R, hR, _⟩ := hf.facts
          have hv143 : MixA.val a1 143 = .slice A0 T0.length c0 := (hR 2 (by decide)).1
          obtain ⟨A148, c148, ps148, hv148, h148, m148⟩ : fLs (1 + na) (varLm 0 :: vsLm na 0 2) [] (MixA.val a1 148) (R 7).1 (R 7).2 w1 := (hR 7 (by decide)).1
          have HV := Lib.hid h148; have HM := Lib.hid (show appLm T0 (ps148.map Tm.t) = TV by rw [m148]; exact HTV.out)
          clear hR h148 m148 E1
          refine MixA.hop ⟨#[undef, undef, undef, undef, undef, undef, undef, undef, undef, undef, undef, undef, undef, undef, undef, undef, undef, undef, undef, undef, undef, undef, undef, undef, undef, undef, undef, undef, undef, undef, undef, undef, undef, undef, undef, undef, undef, undef, undef, undef, undef, undef, undef, undef, undef, undef, undef, undef, undef, undef, undef, undef, undef, undef, undef, undef, undef, undef, undef, undef, undef, undef, undef, undef, undef, undef, undef, undef, undef, undef, undef, undef, undef, undef, undef, undef, undef, undef, undef, undef, undef, undef, undef, undef, undef, undef, undef, undef, undef, undef, undef, undef, undef, undef, undef, undef, undef, undef, undef, undef, undef, undef, undef, undef, undef, undef, undef, undef, undef, undef, undef, undef, undef, undef, undef, undef, undef, undef, undef, undef, undef, undef, undef, undef, undef, undef, undef, undef, undef, undef, undef, undef, undef, undef, undef, undef, undef, undef, undef, undef, undef, undef, undef, (.slice A0 T0.length c0), undef, undef, undef, undef, (.slice A148 (1 + na) c148), undef], []⟩ (by intro cs b e; cases e) rfl (show 149 < 150 by decide) ?_ ?_
          · intro x hx
            simp [Op.operands, Call.operands] at hx
            rcases hx with rfl | rfl | rfl
            · rfl
            · exact hv143.trans rfl
            · exact hv148.trans rfl
          go_wp2_with fail
          refine (l12ApplyT_c A0 T0.length c0 T0 A148 (1 + na) c148 TV.length ps148 TV _ R1.out HV.out (by omega) HM.out rfl (by omega)).mono ?_
          rintro e' w2 ⟨A2, c2, rfl, hl2, hw2, hc2, hb2⟩
          have W2 := Lib.hid (show Rd2 w2 A2 TV.length TV from hw2.rd); have B2 := Lib.hid hb2
          clear hl2 hw2 hc2 hb2
          go_wp2_with fail
          first | exact ⟨B2.out, A2, c2, rfl, W2.out⟩ | exact ⟨_, rfl, B2.out, A2, c2, rfl, W2.out⟩
        · intro a1 w1 hf
          obtain ⟨R, hR, hd⟩ := hf.facts
          obtain ⟨A16, c16, hv149, h149⟩ : fTn TV.length TV [] (MixA.val a1 149) (R 8).1 (R 8).2 w1 := (hR 8 (by decide)).1
          have F16 := Lib.hid (below_of_drew hf.below)
          have R16 := Lib.hid h149
          have z16 := F16.out.size
          rw [hf.act]
          clear hR hd h149 EW
          simp only [List.foldl_cons, List.foldl_nil, hv149]
          clear hv149 hf
          simp only [Act.put, List.setIfInBounds_toArray, List.set_cons_succ, List.set_cons_zero]
          go_wp2_with fail
        -- behind the region lt34
          obtain ⟨w16, rfl⟩ : ∃ w16, w16 = w1 := ⟨_, rfl⟩
          have E16 := Lib.hid (HBA.out.trans (F16.out.mono HBA.out.size))
          go_wp2_with fail
          refine (l18Var_c (2) _).mono ?_
          rintro e w20 ⟨A20, c20, rfl, hl20, hw20, hc20, hb20⟩
          have D20 := Lib.hid hb20; have E20 := Lib.hid (E16.out.trans (hb20.mono E16.out.size)); have R20 := Lib.hid (show Rd2 w20 A20 1 (varLm (2)) from hw20.rd)
          have L20 := Lib.hid (fun (b : Nat) (hb : b ≤ _) => hw20.from_ hb (by omega))
          clear hl20 hw20 hc20 hb20
          go_wp2_with fail
          refine (l18Var_c (2) _).mono ?_
          rintro e w21 ⟨A21, c21, rfl, hl21, hw21, hc21, hb21⟩
          have D21 := Lib.hid hb21; have E21 := Lib.hid (E20.out.trans (hb21.mono E20.out.size)); have R21 := Lib.hid (show Rd2 w21 A21 1 (varLm (2)) from hw21.rd)
          have L21 := Lib.hid (fun (b : Nat) (hb : b ≤ _) => hw21.from_ hb (by omega))
          clear hl21 hw21 hc21 hb21
          go_wp2_with fail
          refine (l18Next_c _).mono ?_
          rintro e w22 ⟨A22, c22, rfl, hl22, hw22, hc22, hb22⟩
          have D22 := Lib.hid hb22; have E22 := Lib.hid ((E21.out).trans (hb22.mono (E21.out).size)); have R22 := Lib.hid (show Rd2 w22 A22 (10) (sucLm) from hw22.rd); have z22 := E22.out.size
          clear hl22 hw22 hc22 hb22
          go_wp2_with fail
          refine (l18Var_c (1) _).mono ?_
          rintro e w23 ⟨A23, c23, rfl, hl23, hw23, hc23, hb23⟩
          have D23 := Lib.hid hb23; have E23 := Lib.hid (E22.out.trans (hb23.mono E22.out.size)); have R23 := Lib.hid (show Rd2 w23 A23 1 (varLm (1)) from hw23.rd)
          have L23 := Lib.hid (fun (b : Nat) (hb : b ≤ _) => hw23.from_ hb (by omega))
          clear hl23 hw23 hc23 hb23
          have E23b := Lib.hid (E23.out.alloc E23.out.size (.cells #[.slice A23 1 c23] 25))
          go_wp2_with fail
          refine (l12ApplyT_c (A22) (10) (c22) (sucLm) (some ⟨w23.heap.size, 0, none⟩) (1) (1) TN.length ([⟨A23, c23, varLm 1⟩]) TN _ ((R22.out.below D23.out).alloc _) (tm1 R23.out) (by omega) (HTN.out) rfl (by omega)).mono ?_
          rintro e w24 ⟨A24, c24, rfl, hl24, hw24, hc24, hb24⟩
          have D24 := Lib.hid hb24; have E24 := Lib.hid ((E23b.out).trans (hb24.mono (E23b.out).size)); have R24 := Lib.hid (show Rd2 w24 A24 (TN.length) (TN) from hw24.rd); have z24 := E24.out.size
          clear hl24 hw24 hc24 hb24
          have E24b := Lib.hid (E24.out.alloc E24.out.size (.cells #[.slice A21 1 c21, .slice A24 TN.length c24] 25))
          have R21b := Lib.hid ((((R21.out.below D22.out).below D23.out).alloc (.cells #[.slice A23 1 c23] 25)).below D24.out)
          have R20b := Lib.hid ((((((R20.out.below D21.out).below D22.out).below D23.out).alloc (.cells #[.slice A23 1 c23] 25)).below D24.out).alloc (.cells #[.slice A21 1 c21, .slice A24 TN.length c24] 25))
          go_wp2_with fail
          refine (l12ApplyT_c (A20) (1) (c20) (varLm 2) (some ⟨w24.heap.size, 0, none⟩) (2) (2) TG.length ([⟨A21, c21, varLm 2⟩, ⟨A24, c24, TN⟩]) TG _ (R20b.out) (tm2 R21b.out R24.out) (by omega) (HTG.out) rfl (by omega)).mono ?_
          rintro e w25 ⟨A25, c25, rfl, hl25, hw25, hc25, hb25⟩
          have D25 := Lib.hid hb25; have E25 := Lib.hid ((E24b.out).trans (hb25.mono (E24b.out).size)); have R25 := Lib.hid (show Rd2 w25 A25 (TG.length) (TG) from hw25.rd); have z25 := E25.out.size
          clear hl25 hw25 hc25 hb25
          go_wp2_with fail
          refine (l18Abs1_c A25 TG.length c25 TG TH _ R25.out HTH.out (by omega)).mono ?_
          rintro e w26 ⟨A26, c26, rfl, hl26, hw26, hc26, hb26⟩
          have D26 := Lib.hid hb26; have E26 := Lib.hid ((E25.out).trans (hb26.mono (E25.out).size)); have R26 := Lib.hid (show Rd2 w26 A26 (TH.length) (TH) from hw26.rd); have z26 := E26.out.size
          clear hl26 hw26 hc26 hb26
          go_wp2_with fail
          refine (l18Var_c (0) _).mono ?_
          rintro e w27 ⟨A27, c27, rfl, hl27, hw27, hc27, hb27⟩
          have D27 := Lib.hid hb27; have E27 := Lib.hid (E26.out.trans (hb27.mono E26.out.size)); have R27 := Lib.hid (show Rd2 w27 A27 1 (varLm (0)) from hw27.rd)
          have L27 := Lib.hid (fun (b : Nat) (hb : b ≤ _) => hw27.from_ hb (by omega))
          clear hl27 hw27 hc27 hb27
          have E27b := Lib.hid (E27.out.alloc E27.out.size (.cells #[.slice A26 TH.length c26, .slice A27 1 c27] 25))
          have R16b := Lib.hid (((((((((R16.out.below D20.out).below D21.out).below D22.out).below D23.out).alloc (.cells #[.slice A23 1 c23] 25)).below D24.out).alloc (.cells #[.slice A21 1 c21, .slice A24 TN.length c24] 25)).below D25.out).below D26.out)
          go_wp2_with fail
          refine (l12ApplyT_c (A16) (TV.length) (c16) (TV) (some ⟨w27.heap.size, 0, none⟩) (2) (2) TX.length ([⟨A26, c26, TH⟩, ⟨A27, c27, varLm 0⟩]) TX _ ((R16b.out.below D27.out).alloc _) (tm2 (R26.out.below D27.out) R27.out) (by omega) (HTX.out) rfl (by omega)).mono ?_
          rintro e w28 ⟨A28, c28, rfl, hl28, hw28, hc28, hb28⟩
          have D28 := Lib.hid hb28; have E28 := Lib.hid ((E27b.out).trans (hb28.mono (E27b.out).size)); have R28 := Lib.hid (show Rd2 w28 A28 (TX.length) (TX) from hw28.rd); have z28 := E28.out.size
          clear hl28 hw28 hc28 hb28
          go_wp2_with fail
          refine (l18Abs2_c A28 TX.length c28 TX TW _ R28.out HTW.out (by omega)).mono ?_
          rintro e w29 ⟨A29, c29, rfl, hl29, hw29, hc29, hb29⟩
          have D29 := Lib.hid hb29; have E29 := Lib.hid ((E28.out).trans (hb29.mono (E28.out).size)); have R29 := Lib.hid (show Rd2 w29 A29 (TW.length) (TW) from hw29.rd); have z29 := E29.out.size
          clear hl29 hw29 hc29 hb29
          go_wp2_with fail
          refine (l12Numeral0_c _).mono ?_
          rintro e w30 ⟨A30, c30, rfl, hl30, hw30, hc30, hb30⟩
          have D30 := Lib.hid hb30; have E30 := Lib.hid ((E29.out).trans (hb30.mono (E29.out).size)); have R30 := Lib.hid (show Rd2 w30 A30 (3) (numLm 0) from hw30.rd); have z30 := E30.out.size
          clear hl30 hw30 hc30 hb30
          have E30b := Lib.hid (E30.out.alloc E30.out.size (.cells #[.slice A29 TW.length c29, .slice A30 3 c30] 25))
          go_wp2_with fail
          refine (l12ApplyT_c (A29) (TW.length) (c29) (TW) (some ⟨w30.heap.size, 0, none⟩) (2) (2) T.length ([⟨A29, c29, TW⟩, ⟨A30, c30, numLm 0⟩]) T _ ((R29.out.below D30.out).alloc _) (tm2 (R29.out.below D30.out) R30.out) (by omega) (HT.out) rfl (by omega)).mono ?_
          rintro e w31 ⟨A31, c31, rfl, hl31, hw31, hc31, hb31⟩
          have D31 := Lib.hid hb31; have E31 := Lib.hid ((E30b.out).trans (hb31.mono (E30b.out).size)); have R31 := Lib.hid (show Rd2 w31 A31 (T.length) (T) from hw31.rd); have z31 := E31.out.size
          clear hl31 hw31 hc31 hb31
          go_wp2_with (first | (go_at_call 122; go_loud (refine (l18AbsT_c na (A31) (T.length) (c31) (T) U _ (by exact R31.out) HU.out (by omega) (by omega)).mono ?_; rintro e w8 ⟨A8, c8, rfl, hl8, hw8, hc8, hb8⟩; have E8 := Lib.hid ((E31.out).trans (hb8.mono (E31.out).size)); have W8 := Lib.hid (hw8.wider (lo' := w.heap.size) (E31.out).size (Nat.le_refl _)); have C8 := Lib.hid hc8; clear hl8 hw8 hc8 hb8)) | (go_at_call 79; refine (l12Is_c A8 U.length c8 U q _ W8.out.rd (by omega) HQ.out).mono ?_; rintro e w9 ⟨rfl, hb9⟩; have E9 := Lib.hid (E8.out.trans (hb9.mono E8.out.size)); have W9 := Lib.hid ((W8.out.below hb9).wider (Nat.le_refl _) hb9.size); clear hb9))
          refine bodyPost_ret (v := .tuple #[.slice A8 U.length c8, .bool q]) (by simp [results, Tryz.results77, go_sem]) rfl ?_
          rw [← HRES.out]
          cases q
          · exact TrS.no E9.out
          · exact TrS.yes W9.out C8.out E9.out
      | comp h0 ha hi t u us0 ht h1 hl hu =>
        simp only at h0 ha hi h1 hl hu
        obtain ⟨us, hus⟩ : ∃ us, us = u :: us0 := ⟨_, rfl⟩
        rw [← hus] at ht
        have hul : us.length ≤ 4 := by rw [hus, List.length_cons]; omega
        subst h0 ht
        clear h1 hl hu hus
        have hmi : i = us.length + 1 := by rw [← HTS.out, List.length_cons]
        have HMI := Lib.hid hmi
        have h1i : 1 ≤ i := by omega
        clear hmi hul
        obtain ⟨na, rfl⟩ : ∃ na : Nat, a = (na : Int) := ⟨a.toNat, by omega⟩
        obtain ⟨pd, A0, c0, T0, rfl, hp0, hcc0, hr0⟩ := hO.out.get (j := 0) (by omega)
        obtain ⟨gp, rfl⟩ : ∃ gp, pd = ⟨gp, 0, none⟩ := ⟨_, (hO.out.own.block rfl).2.2.1⟩
        rw [addrZf] at hcc0
        have hL0 : L[0]? = some T0 := by rw [← HPL.out, List.getElem?_map, hp0]; rfl
        have ht0 : T0.length ≤ 400 := HLE.out T0 (List.mem_of_getElem? hL0)
        obtain ⟨J, hJ⟩ : ∃ J, L.tail.map (fun p => appLm p (vsLm na 0 0)) = J := ⟨_, rfl⟩
        obtain ⟨T, hT⟩ : ∃ T, appLm T0 J = T := ⟨_, rfl⟩
        have HU := Lib.hid (show absLm na T = U by
          have e0 : L.getD 0 [] = T0 := by rw [List.getD_eq_getElem?_getD, hL0]; rfl
          rw [← HU0.out, outLm, bod_comp rfl]
          show absLm na T = absLm na (appLm (L.getD 0 []) (L.tail.map fun p => appLm p (vsLm na 0 0)))
          rw [e0, hJ, hT])
        have hTb : T.length ≤ 100000 := by
          have h9 : U.length = na + T.length := by rw [← HU.out, absLm_len]
          omega
        have HT := Lib.hid hT; have HJ := Lib.hid hJ
        have hJL : J.length + 1 = i := by rw [← hJ, List.length_map, List.length_tail]; have := HLP2.out; omega
        have HJL := Lib.hid hJL
        have R0 := Lib.hid hr0; have HP0 := Lib.hid hp0; have HC0 := Lib.hid hcc0
        clear hT hJ hr0 hp0 hL0 hJL hcc0 q2
        obtain ⟨wo, rfl⟩ : ∃ wo : World, wo = wr := ⟨_, rfl⟩
        have Z0 := Lib.hid (show LmS ((wo.alloc (.cells #[] 62)).alloc (.cells #[] 25)) wo.heap.size 25 (some ⟨wo.heap.size + 1, 0, none⟩) 0 0 [] by
          have h9 := LmS.nil (Own.lit (w := wo.alloc (.cells #[] 62)) (e := 25) (B := wo.heap.size) (by rw [World.size_alloc]; omega))
          rwa [World.size_alloc] at h9)
        go_wp2_with fail
        go_loopw [13, 14] (fun ov iv wr => ∃ (k p oc : Nat) (O : Option Addr) (qs : List Tm), 1 ≤ k ∧ k ≤ i ∧ k = p + 1 ∧ iv = .int .i64 k ∧ ov = .slice O p oc ∧ Hid (LmS wr wo.heap.size 25 O p oc qs) ∧ Hid (qs.map Tm.t = J.take p) ∧ Below wo.heap.size wo wr) (fun _ iv _ => i - (intOf iv).toNat)
        case atStart => exact ⟨1, 0, 0, _, [], by omega, by omega, rfl, rfl, rfl, Z0.out, rfl, (below_size.alloc (Nat.le_refl _) _).alloc (by simp) _⟩
        case round =>
          obtain ⟨k, p, oc, O, qs, hk1, hk, hkp, rfl, rfl, hQ, hqm, hb⟩ := hrel
          have HB2 := Lib.hid hb; have HKP := Lib.hid hkp
          have hwz2 := hb.size
          have hpk : p ≤ 5 := by omega
          clear hkp
          by_cases hlt : k < i
          · obtain ⟨pd', A1, c1, T1, e1, hp1, hcc1, hr1⟩ := hO.out.get (j := k) hlt
            injection e1 with e1; subst e1
            have hL1 : L[k]? = some T1 := by rw [← HPL.out, List.getElem?_map, hp1]; rfl
            have ht1 : T1.length ≤ 400 := HLE.out T1 (List.mem_of_getElem? hL1)
            obtain ⟨T2, hT2⟩ : ∃ T2, appLm T1 (vsLm na 0 0) = T2 := ⟨_, rfl⟩
            have ht2 : T2.length ≤ 1000 := by rw [← hT2, appVs_len]; omega
            have HJ2 := Lib.hid (show J.take (p + 1) = J.take p ++ [T2] by
              refine take_at ?_
              rw [← HJ.out, List.getElem?_map, List.getElem?_tail, ← HKP.out, hL1, ← hT2]; rfl)
            have HT2 := Lib.hid hT2
            rw [head_add] at hcc1
            have x0 := Ext.cell (keepc hb hcc1)
            have x1 := Ext.cell (show wr.cell? ⟨gp, 0 + k, none⟩ = some (.slice A1 T1.length c1) by rw [Nat.zero_add]; exact keepc hb hcc1)
            have R1 := Lib.hid (show Rd2 wr A1 T1.length T1 from hr1.below hb)
            clear hp1 hL1 hT2 hcc1 hr1 hb
            go_wp2_with fail
            refine Mix.wp_region_mix [0, 0, 0, 0, 3, 0, 1, 1, 1, 2, 0] (fun w' => ∃ x : Ext wr, w' = x.w) (by kernel_rfl) (by kernel_rfl) (InExt.drew _) ?_
            repeat (first | (refine Mix.wpMix_read (by rfl) ?_; go_big_quiet_step (fail); refine wpQuiet_nil ?_) | (refine Mix.wpMix_pure (by rfl) ?_; go_big_quiet_step (fail); refine wpQuiet_nil ?_))
            refine Mix.wpMix_chg (by rfl) (fun K hK => ?_)
            go_wp2_with fail
            refine (l18Vars00_c na _ (by omega)).mono ?_
            rintro e w3 ⟨G, gc, qs2, rfl, hl3, hm3, hb3⟩
            have E3 := Lib.hid (below_of_drew hb3); have V3 := Lib.hid hl3.rdV
            have HT3 := Lib.hid (show appLm T1 (qs2.map Tm.t) = T2 by rw [hm3]; exact HT2.out)
            clear hl3 hm3 hb3
            go_wp2_with fail
            refine hK _ _ ⟨⟨_, E3.out⟩, rfl⟩ ?_
            clear hK K
            repeat (first | (refine Mix.wpMix_read (by rfl) ?_; go_big_quiet_step (fail); refine wpQuiet_nil ?_) | (refine Mix.wpMix_pure (by rfl) ?_; go_big_quiet_step (fail); refine wpQuiet_nil ?_))
            refine Mix.wpMix_chg (by rfl) (fun K hK => ?_)
            go_wp2_with fail
            refine (l12ApplyT_c A1 T1.length c1 T1 G na gc T2.length qs2 T2 _ (R1.out.below E3.out) V3.out (by omega) HT3.out rfl (by omega)).mono ?_
            rintro e w4 ⟨A4, c4, rfl, hl4, hw4, hc4, hb4⟩
            have E4 := Lib.hid (below_chain E3.out E3.out.size hb4); have z4 := E4.out.size
            have W4 := Lib.hid (hw4.wider (lo' := wr.heap.size) E3.out.size (Nat.le_refl _))
            clear hl4 hw4 hc4 hb4
            go_wp2_with fail
            refine hK _ _ ⟨⟨_, E4.out⟩, rfl⟩ ?_
            clear hK K
            repeat (first | (refine Mix.wpMix_read (by rfl) ?_; go_big_quiet_step (fail); refine wpQuiet_nil ?_) | (refine Mix.wpMix_pure (by rfl) ?_; go_big_quiet_step (fail); refine wpQuiet_nil ?_))
            refine Mix.wpMix_chg (by rfl) (fun K hK => ?_)
            go_wp2_with fail
            refine hK _ _ ⟨⟨_, E4.out.alloc z4 _⟩, rfl⟩ ?_
            clear hK K
            repeat (first | (refine Mix.wpMix_read (by rfl) ?_; go_big_quiet_step (fail); refine wpQuiet_nil ?_) | (refine Mix.wpMix_pure (by rfl) ?_; go_big_quiet_step (fail); refine wpQuiet_nil ?_))
            refine Mix.wpMix_tail (by rfl) (fun K hK => ?_)
            refine wp_app1 (by rfl) _ _ 32 25 (.slice none 0 0) 24 (by rfl) Tryz.underlying32 info_sLam rfl wo.heap.size O p oc (qs.map Tm.hd) (by rfl) (by exact (hQ.out.own.keep E4.out).alloc _) w4.heap.size (.slice A4 T2.length c4) (by rfl) (by exact new_cell _ _ _ 0) rfl (by omega) (by omega) (by simp; omega) ?_
            intro g' cap w5 own5 hb5 hk5 hg5 hz5
            have L5 := Lib.hid (LmS.push hQ.out hwz2 (w1 := w4.alloc (.cells #[.slice A4 T2.length c4] 25)) (p := ⟨A4, c4, T2⟩) (E4.out.alloc z4 _) ((W4.out.below (below_size.alloc (Nat.le_refl _) _)).wider (Nat.le_refl _) (by simp)) (by rw [List.map_append]; exact own5) hk5 hg5 hz5)
            have E5 := Lib.hid (((HB2.out.trans (E4.out.mono hwz2)).alloc (by omega) _).trans hb5)
            clear own5 hb5 hk5 hg5 hz5
            go_wp2_with fail
            refine hK _ _ ?_
            clear hK K
            repeat (first | (refine Mix.wpMix_read (by rfl) ?_; go_big_quiet_step (fail); refine wpQuiet_nil ?_) | (refine Mix.wpMix_pure (by rfl) ?_; go_big_quiet_step (fail); refine wpQuiet_nil ?_))
            (refine Mix.wpMix_nil ?_; try simp only [Exit.then])
            go_wp2_with fail
            go_roundw
            case rel => exact ⟨k + 1, p + 1, cap, some ⟨g', 0, none⟩, qs ++ [(⟨A4, c4, T2⟩ : Tm)], by omega, by omega, by have := HKP.out; omega, by go_num, rfl, L5.out, by unfold Hid; rw [List.map_append, hqm.out, HJ2.out]; rfl, E5.out⟩
            case measure => simp [intOf]; omega
          · obtain rfl : k = i := by omega
            have HQM := Lib.hid (show qs.map Tm.t = J by rw [hqm.out, List.take_of_length_le (by have := HJL.out; have := HKP.out; omega)])
            have VQ := Lib.hid hQ.out.rdV
            have E6 := Lib.hid (HB.out.trans (hb.mono hwz))
            have z0 : wr.cell? ⟨gp, 0, none⟩ = some (.slice A0 T0.length c0) := keepc hb HC0.out
            have R6 := Lib.hid (show Rd2 wr A0 T0.length T0 from R0.out.below hb)
            clear hb
            go_wp2_with fail
            refine (l12ApplyT_c A0 T0.length c0 T0 O p oc T.length qs T _ R6.out VQ.out (by omega) (by rw [HQM.out]; exact HT.out) rfl hTb).mono ?_
            rintro e w7 ⟨A7, c7, rfl, hl7, hw7, hc7, hb7⟩
            have RD7 := Lib.hid (show Rd2 w7 A7 T.length T from hw7.rd); have E7 := Lib.hid (E6.out.trans (hb7.mono E6.out.size))
            clear hl7 hw7 hc7 hb7
            go_wp2_with (first | (go_at_call 122; go_loud (refine (l18AbsT_c na (A7) (T.length) (c7) (T) U _ (by exact RD7.out) HU.out (by omega) (by omega)).mono ?_; rintro e w8 ⟨A8, c8, rfl, hl8, hw8, hc8, hb8⟩; have E8 := Lib.hid ((E7.out).trans (hb8.mono (E7.out).size)); have W8 := Lib.hid (hw8.wider (lo' := w.heap.size) (E7.out).size (Nat.le_refl _)); have C8 := Lib.hid hc8; clear hl8 hw8 hc8 hb8)) | (go_at_call 79; refine (l12Is_c A8 U.length c8 U q _ W8.out.rd (by omega) HQ.out).mono ?_; rintro e w9 ⟨rfl, hb9⟩; have E9 := Lib.hid (E8.out.trans (hb9.mono E8.out.size)); have W9 := Lib.hid ((W8.out.below hb9).wider (Nat.le_refl _) hb9.size); clear hb9))
            refine bodyPost_ret (v := .tuple #[.slice A8 U.length c8, .bool q]) (by simp [results, Tryz.results77, go_sem]) rfl ?_
            rw [← HRES.out]
            cases q
            · exact TrS.no E9.out
            · exact TrS.yes W9.out C8.out E9.out
end Go.Proofs.YtebjpmmgdkepjaaGreatDoor
