/-
  Parts of the proof, one behind the other: contracts of the functions that the law reaches, and plain laws.
-/
import Derived.Test.YtebjpmmgdkepjaaGreatDoorLot06
import Derived.Test.YtebjpmmgdkepjaaGreatDoorLot17
import Derived.Test.YtebjpmmgdkepjaaGreatDoorLot30
/-
  Lambda terms as combinator terms: the reference's abstraction of a variable.
-/
namespace Go.Proofs.YtebjpmmgdkepjaaGreatDoor
open Go.RowKit

theorem names_has (k : Int) (c : LT) (q : Bool) (h : decide ((4, k) ∈ c) = q) : (namesC c).contains k = q := by
  rw [← h]
  have h1 : k ∈ namesC c ↔ (4, k) ∈ c := by
    rw [namesC_mem, varsC, List.mem_filterMap]
    constructor
    · rintro ⟨⟨p, v⟩, hx, he⟩
      simp only at he
      split at he
      · rename_i h4; injection he with he; subst he h4; exact hx
      · cases he
    · intro hx; exact ⟨_, hx, by simp⟩
  by_cases h9 : (4, k) ∈ c
  · rw [decide_eq_true h9]; exact List.contains_iff_mem.2 (h1.2 h9)
  · rw [decide_eq_false h9]
    cases hc : (namesC c).contains k with
    | false => rfl
    | true => exact absurd (h1.1 (List.contains_iff_mem.1 hc)) h9
theorem names_len (c : LT) : (namesC c).length ≤ c.length := by
  have fold : ∀ (vs acc : List Int), (vs.foldl (fun out v => putS v out) acc).length ≤ acc.length + vs.length := by
    intro vs
    induction vs with
    | nil => intro acc; simp
    | cons v vs ih => intro acc; rw [List.foldl_cons, List.length_cons]; have := ih (putS v acc); have := putS_len (v := v) (l := acc); omega
  have h1 := fold (varsC c) []
  have h2 : (varsC c).length ≤ c.length := by rw [varsC]; exact List.length_filterMap_le _ _
  simp only [List.length_nil] at h1
  rw [namesC]
  omega
/-- whether a variable occurs -/
theorem hasName_c (ad : Addr) (n cp : Nat) (c : LT) (k : Int) (q : Bool) (w : World) (h : Rd2 w (some ad) n c) (hn : n ≤ 1000) (hq : decide ((4, k) ∈ c) = q) :
    Calls Tryz.prog 131 #[.slice (some ad) n cp] w fun e w' => ∃ A m c', e = .returned (.slice A m c') ∧ m ≤ 1000 ∧ (∃ xs, RdI w' A m xs ∧ xs.contains k = q) ∧ Below w.heap.size w w' := by
  refine (l18Names_c (some ad) n cp c _ w h (by omega) rfl).mono ?_
  rintro e w' ⟨A, c', rfl, ho, hb⟩
  exact ⟨A, _, c', rfl, by have := names_len c; have := h.len; omega, ⟨_, ho.wr.rd, names_has k c q hq⟩, hb⟩
set_option maxHeartbeats 8000000 in
set_option maxRecDepth 100000 in
theorem l18Abstract_c (k : Int) {c0 : LT} (h0 : Cw c0) : c0.length ≤ 400 → ∀ (f : Nat) (A : Option Addr) (n cp : Nat) (w : World), Rd2 w A n c0 → n ≤ cp → c0.length ≤ f →
    Calls Tryz.prog 88 #[.slice A n cp, .int .i64 k, .bool true] w (TmOut (absC f k c0) (absC f k c0).length w) := by
  induction h0 with
  | @atom x hx =>
    intro h4 f A n cp w h hcp hf
    obtain ⟨f, rfl⟩ : ∃ g, f = g + 1 := ⟨f - 1, by simp at hf; omega⟩
    have hn : 1 = n := h.len
    subst hn
    obtain ⟨ad, x', rfl, _, hx', hc0, hc1⟩ := h.at_ (k := 0) (by omega)
    rw [List.getElem?_cons_zero] at hx'; injection hx' with hx'; subst hx'
    rw [Nat.zero_mul, addrZm] at hc0 hc1
    obtain ⟨p, v⟩ := x
    simp only at hc0 hc1
    have H := Lib.hid h
    clear h hx
    rcases pair_cases p v 4 k with ⟨_, rfl, rfl⟩ | ⟨hne, hne2⟩
    · have HT := Lib.hid (show absC (f + 1) v [(4, v)] = [(3, 0)] from absC_var rfl)
      rw [HT.out]
      go_enter Tryz.func88, Tryz.ntmps88
      go_wp2_with fail
      go_ret
      have O := Own.litT (w := w) (B := w.heap.size) (e := 100) (cs := #[.int .i64 3, .int .i64 0]) (xs := [(3, 0)]) (n := 1) (Nat.le_refl _) rfl rfl (by omega)
      exact ⟨_, 1, rfl, rfl, O.wrK, Nat.le_refl _, below_size.alloc (Nat.le_refl _) _⟩
    · have hnm : ¬ (4, k) ∈ ([(p, v)] : LT) := fun h => hne (by rw [List.mem_singleton] at h; exact h.symm)
      obtain ⟨T, hT⟩ : ∃ T, absC (f + 1) k [(p, v)] = T := ⟨_, rfl⟩
      have HT := Lib.hid (show ([(0, 0), (2, 0)] ++ [(p, v)] : LT) = T by rw [← hT, absC_no (fun e => hne (by injection e)) hnm]; rfl)
      have HNM := Lib.hid (decide_eq_false hnm)
      have HTN := Lib.hid (show T.length = 2 + 1 by rw [← HT.out]; rfl)
      rw [hT]
      clear hT hnm
      rcases hne2 with g1 | ⟨rfl, g1⟩
      · go_enter Tryz.func88, Tryz.ntmps88
        go_wp2_with fail
        refine (hasName_c ad (1) cp ([(p, v)]) k false _ H.out (by omega) HNM.out).mono ?_
        rintro e w2 ⟨A2, m2, c2, rfl, hm2, ⟨xs2, hx2, hk2⟩, hb2⟩
        have B2 := Lib.hid hb2; have X2 := Lib.hid hx2; have K2 := Lib.hid hk2; have hz2 := hb2.size
        have R2 := Lib.hid (show Rd2 w2 (some ad) (1) ([(p, v)]) from H.out.below hb2)
        clear hx2 hk2 hb2
        go_wp2_with fail
        refine (l00Has_c A2 m2 c2 xs2 k w2 X2.out (by omega) false K2.out).mono ?_
        rintro e w' ⟨rfl, rfl⟩
        have O3 := Lib.hid (show Own (w2.alloc (.cells #[.int .i64 0, .int .i64 0, .int .i64 2, .int .i64 0] 100)) w.heap.size 100 2 (some ⟨w2.heap.size, 0, none⟩) 2 2 (([(0, 0), (2, 0)] : LT).flatMap enc2) from Own.litT hz2 rfl rfl (by omega))
        have B3 := Lib.hid (B2.out.alloc hz2 (.cells #[.int .i64 0, .int .i64 0, .int .i64 2, .int .i64 0] 100))
        go_wp2_with (at_builtin; refine wp_appComb (by rfl) _ _ (by rfl) w.heap.size (some ⟨w2.heap.size, 0, none⟩) 2 2 _ (by rfl) (by exact O3.out) (some ad) (1) cp ([(p, v)]) (by rfl) (by exact R2.out.alloc _) (by omega) B3.out.size ?_; intro A4 c4 w4 own4 hb4 hk4 hg4 hz4; have O4 := Lib.hid own4; have B4 := Lib.hid (B3.out.trans hb4); clear own4 hb4 hk4 hg4 hz4)
        go_ret
        rw [HTN.out]
        exact ⟨A4, c4, rfl, HTN.out, by rw [← HT.out]; have h9 := O4.out.wrK; rw [← List.flatMap_append] at h9; exact h9, O4.out.cap, B4.out⟩
      · go_enter Tryz.func88, Tryz.ntmps88
        go_wp2_with fail
        refine (hasName_c ad (1) cp ([(4, v)]) k false _ H.out (by omega) HNM.out).mono ?_
        rintro e w2 ⟨A2, m2, c2, rfl, hm2, ⟨xs2, hx2, hk2⟩, hb2⟩
        have B2 := Lib.hid hb2; have X2 := Lib.hid hx2; have K2 := Lib.hid hk2; have hz2 := hb2.size
        have R2 := Lib.hid (show Rd2 w2 (some ad) (1) ([(4, v)]) from H.out.below hb2)
        clear hx2 hk2 hb2
        go_wp2_with fail
        refine (l00Has_c A2 m2 c2 xs2 k w2 X2.out (by omega) false K2.out).mono ?_
        rintro e w' ⟨rfl, rfl⟩
        have O3 := Lib.hid (show Own (w2.alloc (.cells #[.int .i64 0, .int .i64 0, .int .i64 2, .int .i64 0] 100)) w.heap.size 100 2 (some ⟨w2.heap.size, 0, none⟩) 2 2 (([(0, 0), (2, 0)] : LT).flatMap enc2) from Own.litT hz2 rfl rfl (by omega))
        have B3 := Lib.hid (B2.out.alloc hz2 (.cells #[.int .i64 0, .int .i64 0, .int .i64 2, .int .i64 0] 100))
        go_wp2_with (at_builtin; refine wp_appComb (by rfl) _ _ (by rfl) w.heap.size (some ⟨w2.heap.size, 0, none⟩) 2 2 _ (by rfl) (by exact O3.out) (some ad) (1) cp ([(4, v)]) (by rfl) (by exact R2.out.alloc _) (by omega) B3.out.size ?_; intro A4 c4 w4 own4 hb4 hk4 hg4 hz4; have O4 := Lib.hid own4; have B4 := Lib.hid (B3.out.trans hb4); clear own4 hb4 hk4 hg4 hz4)
        go_ret
        rw [HTN.out]
        exact ⟨A4, c4, rfl, HTN.out, by rw [← HT.out]; have h9 := O4.out.wrK; rw [← List.flatMap_append] at h9; exact h9, O4.out.cap, B4.out⟩
  | @app a b ha hb iha ihb =>
    intro h4 f A n cp w h hcp hf
    obtain ⟨f, rfl⟩ : ∃ g, f = g + 1 := ⟨f - 1, by simp at hf; omega⟩
    have hpa := ha.pos; have hpb := hb.pos
    have hn : a.length + b.length + 1 = n := by have := h.len; simp only [List.length_cons, List.length_append] at this; omega
    simp only [List.length_cons, List.length_append] at hf h4
    obtain ⟨ad, rfl, hab, _⟩ := h.2 (by omega)
    have g0 : ((n : Int) == 1) = false := by rw [beq_eq_false_iff_ne]; omega
    obtain ⟨T, hT⟩ : ∃ T, absC (f + 1) k ((0, 0) :: (a ++ b)) = T := ⟨_, rfl⟩
    have hTl : T.length ≤ 1200 := by
      rw [← hT]
      have h9 := absC_len (k := k) (Cw.app ha hb) (f + 1) (by simp; omega)
      simp only [List.length_cons, List.length_append] at h9; omega
    rw [hT]
    have HTT := Lib.hid hT; have H := Lib.hid h
    by_cases hm : (4, k) ∈ ((0, 0) :: (a ++ b) : LT)
    · have HM := Lib.hid (decide_eq_true hm)
      obtain ⟨la, hla⟩ : ∃ la, a.length = la := ⟨_, rfl⟩
      obtain ⟨lb, hlb⟩ : ∃ lb, b.length = lb := ⟨_, rfl⟩
      obtain ⟨z, hzz⟩ : ∃ z, 1 + la = z := ⟨_, rfl⟩
      have hz1 : 1 < z ∧ z < n := by omega
      have hcpz : z < cp := by omega
      have HEN := Lib.hid (show endP manyC (((0, 0) :: (a ++ b) : LT).drop 1) 1 = some la by
        have h9 := ha.end_ b 0
        rw [endP_zero] at h9
        rw [List.drop_succ_cons, List.drop_zero, h9, ← hla]; rfl)
      have hza : z - 1 = la := by omega
      have hzb : n - z = lb := by omega
      have HRA := Lib.hid (fun (w' : World) (hb9 : Below w.heap.size w w') => show Rd2 w' (some ⟨ad.block, ad.off + 2, none⟩) (z - 1) a by
        have h9 := (h.below hb9).part 1 la (by omega)
        rw [List.drop_succ_cons, List.drop_zero, List.take_left' hla] at h9
        rw [hza]
        have e9 : ad.add (1 * 2) = ⟨ad.block, ad.off + 2, none⟩ := by rw [Addr.add, if_neg (by omega)]
        rw [e9] at h9; exact h9)
      have HRB := Lib.hid (fun (w' : World) (hb9 : Below w.heap.size w w') => show Rd2 w' (some (ad.add (z * 2))) (n - z) b by
        have h9 := (h.below hb9).part z lb (by omega)
        rw [← hzz, Nat.add_comm 1 la, List.drop_succ_cons, List.drop_left' hla, List.take_of_length_le (by rw [hlb]; exact Nat.le_refl _)] at h9
        rw [hzb, ← hzz, Nat.add_comm 1 la]; exact h9)
      obtain ⟨Ta, hTa⟩ : ∃ Ta, absC f k a = Ta := ⟨_, rfl⟩
      obtain ⟨Tb, hTb⟩ : ∃ Tb, absC f k b = Tb := ⟨_, rfl⟩
      have HIA := Lib.hid (fun (w' : World) (h : Rd2 w' (some ⟨ad.block, ad.off + 2, none⟩) (z - 1) a) => show Calls Tryz.prog 88 #[.slice (some ⟨ad.block, ad.off + 2, none⟩) (z - 1) (cp - 1), .int .i64 k, .bool true] w' (TmOut Ta Ta.length w') by rw [← hTa]; exact iha (by omega) f _ (z - 1) (cp - 1) w' h (by omega) (by omega))
      have HIB := Lib.hid (fun (w' : World) (h : Rd2 w' (some (ad.add (z * 2))) (n - z) b) => show Calls Tryz.prog 88 #[.slice (some (ad.add (z * 2))) (n - z) (cp - z), .int .i64 k, .bool true] w' (TmOut Tb Tb.length w') by rw [← hTb]; exact ihb (by omega) f _ (n - z) (cp - z) w' h (by omega) (by omega))
      have hTal : Ta.length ≤ 1200 := by rw [← hTa]; have := absC_len (k := k) ha f (by omega); omega
      have hTbl : Tb.length ≤ 1200 := by rw [← hTb]; have := absC_len (k := k) hb f (by omega); omega
      have HTA := Lib.hid hTa; have HTB := Lib.hid hTb; have HM2 := Lib.hid hm; have HLT := Lib.hid hab
      clear h iha ihb hTa hTb hza hm hab hT
      go_enter Tryz.func88, Tryz.ntmps88
      go_wp2_with fail
      refine (hasName_c ad n cp _ k true _ H.out (by omega) HM.out).mono ?_
      rintro e w2 ⟨A2, m2, c2, rfl, hm2, ⟨xs2, hx2, hk2⟩, hb2⟩
      have B2 := Lib.hid hb2; have X2 := Lib.hid hx2; have K2 := Lib.hid hk2; have R2 := Lib.hid (H.out.below hb2)
      clear hx2 hk2 hb2
      go_wp2_with fail
      refine (l00Has_c A2 m2 c2 xs2 k w2 X2.out (by omega) true K2.out).mono ?_
      rintro e w' ⟨rfl, rfl⟩
      go_wp2_with fail
      refine (l12CombEnd_c (some ad) n cp _ 1 la z w2 R2.out (by omega) HEN.out hzz).mono ?_
      rintro e w3 ⟨rfl, rfl⟩
      obtain ⟨w3, rfl⟩ : ∃ w3, w3 = w2 := ⟨_, rfl⟩
      have B3 := B2; have hz3 := B3.out.size
      have RA := Lib.hid (HRA.out _ B3.out); have RB := Lib.hid (HRB.out _ B3.out)
      by_cases hb1 : lb = 1
      · obtain ⟨y, hy⟩ : ∃ y, b = [y] := List.length_eq_one_iff.1 (by rw [hlb]; exact hb1)
        obtain ⟨p, v⟩ := y
        obtain ⟨ad', x', e', _, hx', hc0, hc1⟩ := RB.out.at_ (k := 0) (by omega)
        injection e' with e'; subst e'
        rw [hy, List.getElem?_cons_zero] at hx'; injection hx' with hx'; subst hx'
        rw [Nat.zero_mul, addrZm] at hc0 hc1
        simp only at hc0 hc1
        have g1 : (((n - z : Nat) : Int) == 1) = true := by rw [beq_iff_eq]; omega
        have hnz1 : 0 < n - z := by omega
        rcases pair_cases p v 4 k with ⟨_, rfl, rfl⟩ | ⟨hne, hne2⟩
        · obtain ⟨qd, hqd⟩ : ∃ q, decide ((4, v) ∈ a) = q := ⟨_, rfl⟩
          have HQD := Lib.hid hqd
          have HNA := Lib.hid (hasName_c ⟨ad.block, ad.off + 2, none⟩ (z - 1) (cp - 1) a v qd w3 RA.out (by omega) HQD.out)
          cases qd with
          | true =>
            have HT := Lib.hid (show ([(0, 0), (0, 0), (1, 0)] ++ (Ta ++ Tb) : LT) = T by
              rw [← HTT.out, absC_app ha HM2.out (fun h => h.2 (of_decide_eq_true hqd)), HTA.out, HTB.out]; rfl)
            have HTN := Lib.hid (show T.length = 3 + Ta.length + Tb.length by rw [← HT.out]; simp; omega)
            clear hy hzb hb1 hqd
            go_wp2_with fail
            refine HNA.out.mono ?_
            rintro e w4 ⟨A4, m4, c4, rfl, hm4, ⟨xs4, hx4, hk4⟩, hb4⟩
            have X4 := Lib.hid hx4; have K4 := Lib.hid hk4; have B4 := Lib.hid (B3.out.trans (hb4.mono hz3)); have RA4 := Lib.hid (RA.out.below hb4); have RB4 := Lib.hid (RB.out.below hb4); have hz4 := B4.out.size
            clear hx4 hk4 hb4 RA RB hc0 hc1
            go_wp2_with fail
            refine (l00Has_c A4 m4 c4 xs4 v w4 X4.out (by omega) true K4.out).mono ?_
            rintro e w' ⟨rfl, rfl⟩
            clear B3 B2 hz3
            obtain ⟨w3', rfl⟩ : ∃ w3', w3' = w3 := ⟨_, rfl⟩
            obtain ⟨w3, rfl⟩ : ∃ w3, w3 = w4 := ⟨_, rfl⟩
            have B3 := B4; have hz3 := hz4; have RA := RA4; have RB := RB4
            have O5 := Lib.hid (show Own (w3.alloc (.cells #[.int .i64 0, .int .i64 0, .int .i64 0, .int .i64 0, .int .i64 1, .int .i64 0] 100)) w.heap.size 100 2 (some ⟨w3.heap.size, 0, none⟩) 3 3 (([(0, 0), (0, 0), (1, 0)] : LT).flatMap enc2) from Own.litT hz3 rfl rfl (by omega))
            have B5 := Lib.hid (B3.out.alloc hz3 (.cells #[.int .i64 0, .int .i64 0, .int .i64 0, .int .i64 0, .int .i64 1, .int .i64 0] 100)); have hz5 := B5.out.size
            have RA5 := Lib.hid (RA.out.alloc (.cells #[.int .i64 0, .int .i64 0, .int .i64 0, .int .i64 0, .int .i64 1, .int .i64 0] 100)); have RB5 := Lib.hid (RB.out.alloc (.cells #[.int .i64 0, .int .i64 0, .int .i64 0, .int .i64 0, .int .i64 1, .int .i64 0] 100))
            go_wp2_with fail
            refine (HIA.out _ RA5.out).mono ?_
            rintro e w6 ⟨A6, c6, rfl, hl6, hw6, hc6, hb6⟩
            have R6 := Lib.hid (show Rd2 w6 A6 Ta.length Ta from hw6.rd); have O6 := Lib.hid (O5.out.keep hb6); have B6 := Lib.hid (B5.out.trans (hb6.mono hz5)); have RB6 := Lib.hid (RB5.out.below hb6); have hz6 := B6.out.size
            clear hl6 hw6 hc6 hb6
            go_wp2_with (at_builtin; refine wp_appComb (by rfl) _ _ (by rfl) w.heap.size (some ⟨w3.heap.size, 0, none⟩) 3 3 _ (by rfl) (by exact O6.out) A6 Ta.length c6 Ta (by rfl) (by exact R6.out) (by omega) hz6 ?_; intro A7 c7 w7 own7 hb7 hk7 hg7 hz7; have O7 := Lib.hid own7; have B7 := Lib.hid (B6.out.trans hb7); have RB7 := Lib.hid (show Rd2 w7 (some (ad.add (z * 2))) (n - z) b from Rd.move RB6.out (fun a9 hn9 ha9 => hk7 _ (by rw [← Option.some.inj ha9, block_add]; exact Nat.lt_of_lt_of_le HLT.out hz6) (fun ad' e9 => by rw [← Option.some.inj e9, ← Option.some.inj ha9, block_add]; show w3.heap.size ≠ ad.block; have := HLT.out; omega)) hz7); clear own7 hb7 hk7 hg7 hz7)
            have hz7 := B7.out.size
            refine (HIB.out _ RB7.out).mono ?_
            rintro e w8 ⟨A8, c8, rfl, hl8, hw8, hc8, hb8⟩
            have R8 := Lib.hid (show Rd2 w8 A8 Tb.length Tb from hw8.rd); have O8 := Lib.hid (O7.out.keep hb8); have B8 := Lib.hid (B7.out.trans (hb8.mono hz7)); have hz8 := B8.out.size
            clear hl8 hw8 hc8 hb8
            go_wp2_with (at_builtin; refine wp_appComb (by rfl) _ _ (by rfl) w.heap.size A7 (3 + Ta.length) c7 _ (by rfl) (by exact O8.out) A8 Tb.length c8 Tb (by rfl) (by exact R8.out) (by omega) hz8 ?_; intro A9 c9 w9 own9 hb9 hk9 hg9 hz9; have O9 := Lib.hid own9; have B9 := Lib.hid (B8.out.trans hb9); clear own9 hb9 hk9 hg9 hz9)
            go_ret
            rw [HTN.out]
            exact ⟨A9, c9, rfl, HTN.out, by rw [← HT.out]; have h9 := O9.out.wrK; rw [← List.flatMap_append, ← List.flatMap_append, List.append_assoc] at h9; exact h9, O9.out.cap, B9.out⟩
          | false =>
            have HTa := Lib.hid (show a = T by rw [← HTT.out, absC_eta ha HM2.out ⟨hy, of_decide_eq_false hqd⟩])
            have HTN := Lib.hid (show T.length = z - 1 by rw [← HTa.out]; omega)
            clear hy hzb hb1 hqd
            go_wp2_with fail
            refine HNA.out.mono ?_
            rintro e w4 ⟨A4, m4, c4, rfl, hm4, ⟨xs4, hx4, hk4⟩, hb4⟩
            have X4 := Lib.hid hx4; have K4 := Lib.hid hk4; have B4 := Lib.hid (B3.out.trans (hb4.mono hz3)); have RA4 := Lib.hid (RA.out.below hb4); have hz4 := B4.out.size
            clear hx4 hk4 hb4
            go_wp2_with fail
            refine (l00Has_c A4 m4 c4 xs4 v w4 X4.out (by omega) false K4.out).mono ?_
            rintro e w' ⟨rfl, rfl⟩
            have O5 := Lib.hid (show Own (w4.alloc (.cells #[] 100)) w.heap.size 100 2 (some ⟨w4.heap.size, 0, none⟩) 0 0 [] from Own.litK hz4)
            have B5 := Lib.hid (B4.out.alloc hz4 (.cells #[] 100)); have hz5 := B5.out.size
            go_wp2_with (at_builtin; refine wp_appComb (by rfl) _ _ (by rfl) w.heap.size (some ⟨w4.heap.size, 0, none⟩) 0 0 _ (by rfl) (by exact O5.out) (some ⟨ad.block, ad.off + 2, none⟩) (z - 1) (cp - 1) a (by rfl) (by exact RA4.out.alloc _) (by omega) hz5 ?_; intro A6 c6 w6 own6 hb6 hk6 hg6 hz6; rw [Nat.zero_add] at own6; have O6 := Lib.hid own6; have B6 := Lib.hid (B5.out.trans hb6); clear own6 hb6 hk6 hg6 hz6)
            go_ret
            rw [HTN.out]
            exact ⟨A6, c6, rfl, HTN.out, by rw [← HTa.out]; have h9 := O6.out.wrK; rw [List.nil_append] at h9; exact h9, O6.out.cap, B6.out⟩
        · have HT := Lib.hid (show ([(0, 0), (0, 0), (1, 0)] ++ (Ta ++ Tb) : LT) = T by
            rw [← HTT.out, absC_app ha HM2.out (fun h => hne (by have h9 := h.1; rw [hy] at h9; injection h9)), HTA.out, HTB.out]; rfl)
          have HTN := Lib.hid (show T.length = 3 + Ta.length + Tb.length by rw [← HT.out]; simp; omega)
          clear hy hzb hb1
          rcases hne2 with g2 | ⟨rfl, g2⟩
          · skip
            have O5 := Lib.hid (show Own (w3.alloc (.cells #[.int .i64 0, .int .i64 0, .int .i64 0, .int .i64 0, .int .i64 1, .int .i64 0] 100)) w.heap.size 100 2 (some ⟨w3.heap.size, 0, none⟩) 3 3 (([(0, 0), (0, 0), (1, 0)] : LT).flatMap enc2) from Own.litT hz3 rfl rfl (by omega))
            have B5 := Lib.hid (B3.out.alloc hz3 (.cells #[.int .i64 0, .int .i64 0, .int .i64 0, .int .i64 0, .int .i64 1, .int .i64 0] 100)); have hz5 := B5.out.size
            have RA5 := Lib.hid (RA.out.alloc (.cells #[.int .i64 0, .int .i64 0, .int .i64 0, .int .i64 0, .int .i64 1, .int .i64 0] 100)); have RB5 := Lib.hid (RB.out.alloc (.cells #[.int .i64 0, .int .i64 0, .int .i64 0, .int .i64 0, .int .i64 1, .int .i64 0] 100))
            go_wp2_with fail
            refine (HIA.out _ RA5.out).mono ?_
            rintro e w6 ⟨A6, c6, rfl, hl6, hw6, hc6, hb6⟩
            have R6 := Lib.hid (show Rd2 w6 A6 Ta.length Ta from hw6.rd); have O6 := Lib.hid (O5.out.keep hb6); have B6 := Lib.hid (B5.out.trans (hb6.mono hz5)); have RB6 := Lib.hid (RB5.out.below hb6); have hz6 := B6.out.size
            clear hl6 hw6 hc6 hb6
            go_wp2_with (at_builtin; refine wp_appComb (by rfl) _ _ (by rfl) w.heap.size (some ⟨w3.heap.size, 0, none⟩) 3 3 _ (by rfl) (by exact O6.out) A6 Ta.length c6 Ta (by rfl) (by exact R6.out) (by omega) hz6 ?_; intro A7 c7 w7 own7 hb7 hk7 hg7 hz7; have O7 := Lib.hid own7; have B7 := Lib.hid (B6.out.trans hb7); have RB7 := Lib.hid (show Rd2 w7 (some (ad.add (z * 2))) (n - z) b from Rd.move RB6.out (fun a9 hn9 ha9 => hk7 _ (by rw [← Option.some.inj ha9, block_add]; exact Nat.lt_of_lt_of_le HLT.out hz6) (fun ad' e9 => by rw [← Option.some.inj e9, ← Option.some.inj ha9, block_add]; show w3.heap.size ≠ ad.block; have := HLT.out; omega)) hz7); clear own7 hb7 hk7 hg7 hz7)
            have hz7 := B7.out.size
            refine (HIB.out _ RB7.out).mono ?_
            rintro e w8 ⟨A8, c8, rfl, hl8, hw8, hc8, hb8⟩
            have R8 := Lib.hid (show Rd2 w8 A8 Tb.length Tb from hw8.rd); have O8 := Lib.hid (O7.out.keep hb8); have B8 := Lib.hid (B7.out.trans (hb8.mono hz7)); have hz8 := B8.out.size
            clear hl8 hw8 hc8 hb8
            go_wp2_with (at_builtin; refine wp_appComb (by rfl) _ _ (by rfl) w.heap.size A7 (3 + Ta.length) c7 _ (by rfl) (by exact O8.out) A8 Tb.length c8 Tb (by rfl) (by exact R8.out) (by omega) hz8 ?_; intro A9 c9 w9 own9 hb9 hk9 hg9 hz9; have O9 := Lib.hid own9; have B9 := Lib.hid (B8.out.trans hb9); clear own9 hb9 hk9 hg9 hz9)
            go_ret
            rw [HTN.out]
            exact ⟨A9, c9, rfl, HTN.out, by rw [← HT.out]; have h9 := O9.out.wrK; rw [← List.flatMap_append, ← List.flatMap_append, List.append_assoc] at h9; exact h9, O9.out.cap, B9.out⟩
          · skip
            have O5 := Lib.hid (show Own (w3.alloc (.cells #[.int .i64 0, .int .i64 0, .int .i64 0, .int .i64 0, .int .i64 1, .int .i64 0] 100)) w.heap.size 100 2 (some ⟨w3.heap.size, 0, none⟩) 3 3 (([(0, 0), (0, 0), (1, 0)] : LT).flatMap enc2) from Own.litT hz3 rfl rfl (by omega))
            have B5 := Lib.hid (B3.out.alloc hz3 (.cells #[.int .i64 0, .int .i64 0, .int .i64 0, .int .i64 0, .int .i64 1, .int .i64 0] 100)); have hz5 := B5.out.size
            have RA5 := Lib.hid (RA.out.alloc (.cells #[.int .i64 0, .int .i64 0, .int .i64 0, .int .i64 0, .int .i64 1, .int .i64 0] 100)); have RB5 := Lib.hid (RB.out.alloc (.cells #[.int .i64 0, .int .i64 0, .int .i64 0, .int .i64 0, .int .i64 1, .int .i64 0] 100))
            go_wp2_with fail
            refine (HIA.out _ RA5.out).mono ?_
            rintro e w6 ⟨A6, c6, rfl, hl6, hw6, hc6, hb6⟩
            have R6 := Lib.hid (show Rd2 w6 A6 Ta.length Ta from hw6.rd); have O6 := Lib.hid (O5.out.keep hb6); have B6 := Lib.hid (B5.out.trans (hb6.mono hz5)); have RB6 := Lib.hid (RB5.out.below hb6); have hz6 := B6.out.size
            clear hl6 hw6 hc6 hb6
            go_wp2_with (at_builtin; refine wp_appComb (by rfl) _ _ (by rfl) w.heap.size (some ⟨w3.heap.size, 0, none⟩) 3 3 _ (by rfl) (by exact O6.out) A6 Ta.length c6 Ta (by rfl) (by exact R6.out) (by omega) hz6 ?_; intro A7 c7 w7 own7 hb7 hk7 hg7 hz7; have O7 := Lib.hid own7; have B7 := Lib.hid (B6.out.trans hb7); have RB7 := Lib.hid (show Rd2 w7 (some (ad.add (z * 2))) (n - z) b from Rd.move RB6.out (fun a9 hn9 ha9 => hk7 _ (by rw [← Option.some.inj ha9, block_add]; exact Nat.lt_of_lt_of_le HLT.out hz6) (fun ad' e9 => by rw [← Option.some.inj e9, ← Option.some.inj ha9, block_add]; show w3.heap.size ≠ ad.block; have := HLT.out; omega)) hz7); clear own7 hb7 hk7 hg7 hz7)
            have hz7 := B7.out.size
            refine (HIB.out _ RB7.out).mono ?_
            rintro e w8 ⟨A8, c8, rfl, hl8, hw8, hc8, hb8⟩
            have R8 := Lib.hid (show Rd2 w8 A8 Tb.length Tb from hw8.rd); have O8 := Lib.hid (O7.out.keep hb8); have B8 := Lib.hid (B7.out.trans (hb8.mono hz7)); have hz8 := B8.out.size
            clear hl8 hw8 hc8 hb8
            go_wp2_with (at_builtin; refine wp_appComb (by rfl) _ _ (by rfl) w.heap.size A7 (3 + Ta.length) c7 _ (by rfl) (by exact O8.out) A8 Tb.length c8 Tb (by rfl) (by exact R8.out) (by omega) hz8 ?_; intro A9 c9 w9 own9 hb9 hk9 hg9 hz9; have O9 := Lib.hid own9; have B9 := Lib.hid (B8.out.trans hb9); clear own9 hb9 hk9 hg9 hz9)
            go_ret
            rw [HTN.out]
            exact ⟨A9, c9, rfl, HTN.out, by rw [← HT.out]; have h9 := O9.out.wrK; rw [← List.flatMap_append, ← List.flatMap_append, List.append_assoc] at h9; exact h9, O9.out.cap, B9.out⟩
      · have g1 : (((n - z : Nat) : Int) == 1) = false := by rw [beq_eq_false_iff_ne]; omega
        have HT := Lib.hid (show ([(0, 0), (0, 0), (1, 0)] ++ (Ta ++ Tb) : LT) = T by
          rw [← HTT.out, absC_app ha HM2.out (fun h => hb1 (by rw [← hlb, h.1]; rfl)), HTA.out, HTB.out]; rfl)
        have HTN := Lib.hid (show T.length = 3 + Ta.length + Tb.length by rw [← HT.out]; simp; omega)
        clear hzb
        have O5 := Lib.hid (show Own (w3.alloc (.cells #[.int .i64 0, .int .i64 0, .int .i64 0, .int .i64 0, .int .i64 1, .int .i64 0] 100)) w.heap.size 100 2 (some ⟨w3.heap.size, 0, none⟩) 3 3 (([(0, 0), (0, 0), (1, 0)] : LT).flatMap enc2) from Own.litT hz3 rfl rfl (by omega))
        have B5 := Lib.hid (B3.out.alloc hz3 (.cells #[.int .i64 0, .int .i64 0, .int .i64 0, .int .i64 0, .int .i64 1, .int .i64 0] 100)); have hz5 := B5.out.size
        have RA5 := Lib.hid (RA.out.alloc (.cells #[.int .i64 0, .int .i64 0, .int .i64 0, .int .i64 0, .int .i64 1, .int .i64 0] 100)); have RB5 := Lib.hid (RB.out.alloc (.cells #[.int .i64 0, .int .i64 0, .int .i64 0, .int .i64 0, .int .i64 1, .int .i64 0] 100))
        go_wp2_with fail
        refine (HIA.out _ RA5.out).mono ?_
        rintro e w6 ⟨A6, c6, rfl, hl6, hw6, hc6, hb6⟩
        have R6 := Lib.hid (show Rd2 w6 A6 Ta.length Ta from hw6.rd); have O6 := Lib.hid (O5.out.keep hb6); have B6 := Lib.hid (B5.out.trans (hb6.mono hz5)); have RB6 := Lib.hid (RB5.out.below hb6); have hz6 := B6.out.size
        clear hl6 hw6 hc6 hb6
        go_wp2_with (at_builtin; refine wp_appComb (by rfl) _ _ (by rfl) w.heap.size (some ⟨w3.heap.size, 0, none⟩) 3 3 _ (by rfl) (by exact O6.out) A6 Ta.length c6 Ta (by rfl) (by exact R6.out) (by omega) hz6 ?_; intro A7 c7 w7 own7 hb7 hk7 hg7 hz7; have O7 := Lib.hid own7; have B7 := Lib.hid (B6.out.trans hb7); have RB7 := Lib.hid (show Rd2 w7 (some (ad.add (z * 2))) (n - z) b from Rd.move RB6.out (fun a9 hn9 ha9 => hk7 _ (by rw [← Option.some.inj ha9, block_add]; exact Nat.lt_of_lt_of_le HLT.out hz6) (fun ad' e9 => by rw [← Option.some.inj e9, ← Option.some.inj ha9, block_add]; show w3.heap.size ≠ ad.block; have := HLT.out; omega)) hz7); clear own7 hb7 hk7 hg7 hz7)
        have hz7 := B7.out.size
        refine (HIB.out _ RB7.out).mono ?_
        rintro e w8 ⟨A8, c8, rfl, hl8, hw8, hc8, hb8⟩
        have R8 := Lib.hid (show Rd2 w8 A8 Tb.length Tb from hw8.rd); have O8 := Lib.hid (O7.out.keep hb8); have B8 := Lib.hid (B7.out.trans (hb8.mono hz7)); have hz8 := B8.out.size
        clear hl8 hw8 hc8 hb8
        go_wp2_with (at_builtin; refine wp_appComb (by rfl) _ _ (by rfl) w.heap.size A7 (3 + Ta.length) c7 _ (by rfl) (by exact O8.out) A8 Tb.length c8 Tb (by rfl) (by exact R8.out) (by omega) hz8 ?_; intro A9 c9 w9 own9 hb9 hk9 hg9 hz9; have O9 := Lib.hid own9; have B9 := Lib.hid (B8.out.trans hb9); clear own9 hb9 hk9 hg9 hz9)
        go_ret
        rw [HTN.out]
        exact ⟨A9, c9, rfl, HTN.out, by rw [← HT.out]; have h9 := O9.out.wrK; rw [← List.flatMap_append, ← List.flatMap_append, List.append_assoc] at h9; exact h9, O9.out.cap, B9.out⟩
    · have HNM := Lib.hid (decide_eq_false hm)
      have HT := Lib.hid (show ([(0, 0), (2, 0)] ++ ((0, 0) :: (a ++ b)) : LT) = T by rw [← HTT.out, absC_no (by intro e; injection e with e; cases e) hm]; rfl)
      have HTN := Lib.hid (show T.length = 2 + n by rw [← HT.out]; simp; omega)
      clear h iha ihb hm hab hT
      go_enter Tryz.func88, Tryz.ntmps88
      go_wp2_with fail
      refine (hasName_c ad (n) cp ((0, 0) :: (a ++ b)) k false _ H.out (by omega) HNM.out).mono ?_
      rintro e w2 ⟨A2, m2, c2, rfl, hm2, ⟨xs2, hx2, hk2⟩, hb2⟩
      have B2 := Lib.hid hb2; have X2 := Lib.hid hx2; have K2 := Lib.hid hk2; have hz2 := hb2.size
      have R2 := Lib.hid (show Rd2 w2 (some ad) (n) ((0, 0) :: (a ++ b)) from H.out.below hb2)
      clear hx2 hk2 hb2
      go_wp2_with fail
      refine (l00Has_c A2 m2 c2 xs2 k w2 X2.out (by omega) false K2.out).mono ?_
      rintro e w' ⟨rfl, rfl⟩
      have O3 := Lib.hid (show Own (w2.alloc (.cells #[.int .i64 0, .int .i64 0, .int .i64 2, .int .i64 0] 100)) w.heap.size 100 2 (some ⟨w2.heap.size, 0, none⟩) 2 2 (([(0, 0), (2, 0)] : LT).flatMap enc2) from Own.litT hz2 rfl rfl (by omega))
      have B3 := Lib.hid (B2.out.alloc hz2 (.cells #[.int .i64 0, .int .i64 0, .int .i64 2, .int .i64 0] 100))
      go_wp2_with (at_builtin; refine wp_appComb (by rfl) _ _ (by rfl) w.heap.size (some ⟨w2.heap.size, 0, none⟩) 2 2 _ (by rfl) (by exact O3.out) (some ad) (n) cp ((0, 0) :: (a ++ b)) (by rfl) (by exact R2.out.alloc _) (by omega) B3.out.size ?_; intro A4 c4 w4 own4 hb4 hk4 hg4 hz4; have O4 := Lib.hid own4; have B4 := Lib.hid (B3.out.trans hb4); clear own4 hb4 hk4 hg4 hz4)
      go_ret
      rw [HTN.out]
      exact ⟨A4, c4, rfl, HTN.out, by rw [← HT.out]; have h9 := O4.out.wrK; rw [← List.flatMap_append] at h9; exact h9, O4.out.cap, B4.out⟩
end Go.Proofs.YtebjpmmgdkepjaaGreatDoor
