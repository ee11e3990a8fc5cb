/-
  Parts of the proof, one behind the other: contracts of the functions that the law reaches, and plain laws.
-/
import Derived.Lib.AppendZerosOnto
import Derived.Lib.AppendZeros
import Derived.Test.YtebjpmmgdkepjaaGreatDoorLot03
import Derived.Test.YtebjpmmgdkepjaaGreatDoorLot04
import Derived.Test.YtebjpmmgdkepjaaGreatDoorLot05
/-
  Contracts of chapter 12: the reference's run of a combinator term.
-/
namespace Go.Proofs.YtebjpmmgdkepjaaGreatDoor
open Go.RowKit

theorem results_tmp4 {fn : Func} {t u v x : Tmp} (h : fn.results = #[.tmp t, .tmp u, .tmp v, .tmp x]) (tmps : Array Value) (P : Program) (w : World) :
    (results fn tmps).run P w = .ok (.tuple #[tmps.getD t undef, tmps.getD u undef, tmps.getD v undef, tmps.getD x undef]) w := by
  simp [results, h]
/-- the run's answer: the term, the steps, whether it is normal, whether all was valid -/
def RunOut (R : Option (List (Int × Int) × Nat × Bool)) (w : World) (e : Ending) (w' : World) : Prop := match R with
  | none => e = .returned (.tuple #[.slice none 0 0, .int .i64 0, .bool false, .bool false]) ∧ Below w.heap.size w w'
  | some (t, s, q) => ∃ A N cap, e = .returned (.tuple #[.slice A N cap, .int .i64 s, .bool q, .bool true]) ∧ Wr w' w.heap.size w'.heap.size A (N * 2) (t.flatMap enc2) ∧ t.length = N ∧ N ≤ cap ∧ Below w.heap.size w w'
theorem l05BudgetC_b (b : Int) (q : Bool) (hq : inB b 1 20000 = q) (w : World) : Calls Tryz.prog 42 #[.int .i64 b] w fun e w' => e = .returned (.bool q) ∧ w = w' := by
  subst hq
  go_enter Tryz.func42, Tryz.ntmps42
  go_wp2_with (go_at_call 75; refine (l00In_c _ _ _ _).mono ?_; rintro e w' ⟨rfl, rfl⟩)
  go_ret
  exact ⟨rfl, rfl⟩
set_option maxHeartbeats 4000000 in
set_option maxRecDepth 100000 in
theorem l12CombRun_c (A : Option Addr) (n cp : Nat) (c : List (Int × Int)) (b : Nat) (R : Option (List (Int × Int) × Nat × Bool)) (w : World) (h : Rd2 w A n c) (hv : validC c = true) (hb : b ≤ 100000) (hR : runC b c 0 = R) :
    Calls Tryz.prog 92 #[.slice A n cp, .int .i64 b] w (RunOut R w) := by
  obtain ⟨hv1, hv2, hv3⟩ := validC_end hv
  have hl := h.len
  obtain ⟨ad, rfl, hab, hcs⟩ := h.2 (by omega)
  have H := Lib.hid h; have HR := Lib.hid hR; have HV := Lib.hid hv; have HL := Lib.hid hl
  rw [hl] at hv2 hv3
  have HC := Lib.hid (show Rd2 (w.alloc (.cells #[] 100)) (some ad) n c from h.alloc _)
  clear h hR hv hcs hl hv1
  go_enter Tryz.func92, Tryz.ntmps92
  go_wp2_with (at_builtin; refine wp_appComb (by rfl) _ _ (by rfl) w.heap.size (some ⟨w.heap.size, 0, none⟩) 0 0 [] (by rfl) (by exact Own.litK (Nat.le_refl _)) (some ad) n cp c (by rfl) (by exact HC.out) (by omega) (by simp) ?_; intro A1 c1 w1 own1 hb1 hk1 hg1 hz1)
  rw [Nat.zero_add, List.nil_append] at own1
  have O1 := Lib.hid own1; have B1 := Lib.hid ((below_size.alloc (Nat.le_refl _) (.cells #[] 100)).trans hb1)
  clear own1 hb1 hk1 hg1 hz1
  go_wp2_with fail
  go_loopw [8, 9] (fun tv kv wr => ∃ (k : Nat) (A : Option Addr) (N cc : Nat) (t : List (Int × Int)), k ≤ b ∧ kv = .int .i64 k ∧ tv = .slice A N cc ∧ Hid (Wr wr w.heap.size wr.heap.size A (N * 2) (t.flatMap enc2)) ∧ Hid (t.length = N) ∧ N ≤ cc ∧ Hid (validC t = true) ∧ Hid (runC (b - k) t k = R) ∧ Below w.heap.size w wr) (fun _ kv _ => b - (intOf kv).toNat)
  case atStart => exact ⟨0, A1, n, c1, c, by omega, rfl, by go_num, O1.out.wrK, HL.out, O1.out.cap, HV.out, HR.out, B1.out⟩
  case round =>
    obtain ⟨k, A, N, cc, t, hk, rfl, rfl, hW, hN, hNc, hV, hr, hb⟩ := hrel
    have HB := Lib.hid hb
    have hwz := hb.size
    have hN4 : N ≤ 400 := by have := (validC_end hV.out).2.2; rw [hN.out] at this; exact this
    have RD := Lib.hid (show Rd2 wr A N t from hW.out.rd)
    have HE := Lib.hid (validC_end hV.out).1
    obtain ⟨F, hF⟩ : ∃ F, firstC t N 0 = F := ⟨_, rfl⟩
    have HF := Lib.hid hF
    have HS := Lib.hid (show runK (b - k) t k F = R by rw [← hr.out, runC_eq, hN.out, hF])
    clear hr hF hb
    cases F with
    | none =>
      have HG := Lib.hid (show some (t, k, true) = R from HS.out)
      go_wp2_with (go_at_call 133; refine (l12CombAt_c _ _ _ t none _ RD.out (by omega) HE.out HF.out).mono ?_; rintro e w' ⟨rfl, rfl⟩)
      ((try simp only [Exit.inBlock, Exit.then]); refine bodyPost_ret (results_tmp4 rfl _ _ _) rfl ?_)
      rw [← HG.out]
      exact ⟨_, _, _, rfl, hW.out, hN.out, hNc, HB.out⟩
    | some j =>
      have hj := firstC_some HF.out
      have hjn : j < N := by omega
      have HJ := Lib.hid hj.2.2
      have HG := Lib.hid (show (if b - k = 0 then some (t, k, false) else if validC (stepC t j) then runC (b - k - 1) (stepC t j) (k + 1) else none) = R from HS.out)
      have g0 : decide (((j : Nat) : Int) < 0) = false := decide_eq_false (by omega)
      clear hj HS
      by_cases hkb : k = b
      · subst hkb
        have HG' := Lib.hid (show some (t, k, false) = R by rw [← HG.out, if_pos (by omega)])
        go_wp2_with (go_at_call 133; refine (l12CombAt_c _ _ _ t (some j) _ RD.out (by omega) HE.out HF.out).mono ?_; rintro e w' ⟨rfl, rfl⟩)
        ((try simp only [Exit.inBlock, Exit.then]); refine bodyPost_ret (results_tmp4 rfl _ _ _) rfl ?_)
        rw [← HG'.out]
        exact ⟨_, _, _, rfl, hW.out, hN.out, hNc, HB.out⟩
      have g1 : ((k : Int) == (b : Int)) = false := by simp; omega
      obtain ⟨S, hS⟩ : ∃ S, stepC t j = S := ⟨_, rfl⟩
      obtain ⟨q, hq⟩ : ∃ q, validC S = q := ⟨_, rfl⟩
      have HSS := Lib.hid hS; have HQ := Lib.hid hq
      have HG' := Lib.hid (show (if q = true then runC (b - (k + 1)) S (k + 1) else none) = R by rw [← HG.out, if_neg (show ¬ b - k = 0 by omega), hS, hq, show b - k - 1 = b - (k + 1) by omega])
      clear hS hq HG
      cases q
      · have HX := Lib.hid (show none = R from HG'.out)
        go_wp2_with (first | (go_at_call 133; refine (l12CombAt_c _ _ _ t (some j) _ RD.out (by omega) HE.out HF.out).mono ?_; rintro e w' ⟨rfl, rfl⟩) | (go_at_call 134; refine (l12CombStep_c _ _ _ t j S false _ RD.out (by omega) (by omega) HE.out hjn HJ.out HSS.out HQ.out).mono ?_; rintro e w2 ⟨A2, N2, cc2, rfl, hw2, hl2, hc2, hb2⟩))
        have B2 := Lib.hid (below_chain HB.out hwz hb2)
        clear hw2 hl2 hb2
        ((try simp only [Exit.inBlock, Exit.then]); refine bodyPost_ret (results_tmp4 rfl _ _ _) rfl ?_)
        rw [← HX.out]
        exact ⟨rfl, B2.out⟩
      · have HX := Lib.hid (show runC (b - (k + 1)) S (k + 1) = R from HG'.out)
        go_wp2_with (first | (go_at_call 133; refine (l12CombAt_c _ _ _ t (some j) _ RD.out (by omega) HE.out HF.out).mono ?_; rintro e w' ⟨rfl, rfl⟩) | (go_at_call 134; refine (l12CombStep_c _ _ _ t j S true _ RD.out (by omega) (by omega) HE.out hjn HJ.out HSS.out HQ.out).mono ?_; rintro e w2 ⟨A2, N2, cc2, rfl, hw2, hl2, hc2, hb2⟩))
        have W2 := Lib.hid (hw2.wider hwz (Nat.le_refl _)); have HL2 := Lib.hid hl2; have B2 := Lib.hid (below_chain HB.out hwz hb2)
        clear hw2 hl2 hb2
        go_roundw
        case rel => exact ⟨k + 1, A2, N2, cc2, S, by omega, by go_num, rfl, W2.out, HL2.out, hc2, HQ.out, HX.out, B2.out⟩
        case measure => simp [intOf]; omega
/-- a term, the steps, whether it is normal, a code -/
def RcOut (R : List (Int × Int) × Int × Bool × Int) (w : World) (e : Ending) (w' : World) : Prop := ∃ A N cap, e = .returned (.tuple #[.slice A N cap, .int .i64 R.2.1, .bool R.2.2.1, .int .i64 R.2.2.2]) ∧ Wr w' w.heap.size w'.heap.size A (N * 2) (R.1.flatMap enc2) ∧ N ≤ 1000000 ∧ Below w.heap.size w w'
theorem RcOut.bad {w w' : World} (k : Int) (h : Below w.heap.size w w') : RcOut ([], 0, false, k) w (.returned (.tuple #[.slice none 0 0, .int .i64 0, .bool false, .int .i64 k])) w' := ⟨none, 0, 0, rfl, Wr.nil, by omega, h⟩
end Go.Proofs.YtebjpmmgdkepjaaGreatDoor
/-
  slices.Grow of nil and slices.Concat: lists one after the other.
-/
namespace Go.Proofs.YtebjpmmgdkepjaaGreatDoor
open Go.RowKit

/-- a slice with its cells -/
structure ItV where
  A : Option Addr
  n : Nat
  c : Nat
  vs : List Value
def hdV (t : ItV) : Value := .slice t.A t.n t.c
def sumV : List ItV → Nat
  | [] => 0
  | t :: l => t.n + sumV l
theorem sumV_app : ∀ a b : List ItV, sumV (a ++ b) = sumV a + sumV b
  | [], b => by simp [sumV]
  | t :: a, b => by simp only [List.cons_append, sumV, sumV_app a b]; omega
theorem sumV_take {its : List ItV} {k : Nat} {t : ItV} (h : its[k]? = some t) : sumV (its.take (k + 1)) = sumV (its.take k) + t.n := by rw [take_at h, sumV_app]; simp [sumV]
theorem sumV_le {its : List ItV} {k : Nat} : sumV (its.take k) ≤ sumV its := by
  have := sumV_app (its.take k) (its.drop k)
  rw [List.take_append_drop] at this; omega
/-- the slices of a list, each with k cells an element -/
structure RdV (w : World) (k : Nat) (A : Option Addr) (m : Nat) (its : List ItV) : Prop where
  head : Rd w A m (its.map hdV)
  each : ∀ t ∈ its, Rd w t.A (t.n * k) t.vs
  one : ∀ t ∈ its, ∀ u ∈ t.vs, u.oneCell' = true
theorem RdV.below {w w' : World} {k : Nat} {A : Option Addr} {m : Nat} {its : List ItV} (h : RdV w k A m its) (hb : Below w.heap.size w w') : RdV w' k A m its := ⟨h.head.below hb, fun t ht => (h.each t ht).below hb, h.one⟩
theorem RdV.len {w : World} {k : Nat} {A : Option Addr} {m : Nat} {its : List ItV} (h : RdV w k A m its) : its.length = m := by have := h.head.1; simpa using this
theorem RdV.at_ {w : World} {k : Nat} {A : Option Addr} {m : Nat} {its : List ItV} (h : RdV w k A m its) {j : Nat} (hj : j < m) : ∃ ad t, A = some ad ∧ its[j]? = some t ∧ w.cell? (ad.add j) = some (.slice t.A t.n t.c) ∧ Rd w t.A (t.n * k) t.vs ∧ ∀ u ∈ t.vs, u.oneCell' = true := by
  have hl := h.len
  have ht : its[j]? = some its[j] := List.getElem?_eq_getElem (by omega)
  obtain ⟨ad, v, e, hb, hv, hc⟩ := h.head.at_ hj
  rw [List.getElem?_map, ht] at hv
  injection hv with hv; subst hv
  exact ⟨ad, _, e, ht, hc, h.each _ (List.getElem_mem (by omega)), h.one _ (List.getElem_mem (by omega))⟩
/-- a slice of the call's own with given cells -/
def CatOut (k N : Nat) (vs : List Value) (w : World) (e : Ending) (w' : World) : Prop := ∃ A c, e = .returned (.slice A N c) ∧ Wr w' w.heap.size w'.heap.size A (N * k) vs ∧ N ≤ c ∧ Below w.heap.size w w'
theorem info_catLam : (Tryz.prog.info? 62).map (fun i => (i.zero, i.size, i.bytes)) = some (some (.agg #[.int .i64 0, .int .i64 0]), 2, 16) := by kernel_rfl
set_option maxHeartbeats 1000000 in
set_option maxRecDepth 100000 in
theorem growNilLam_c (n : Nat) (w : World) (hn : n ≤ 100000000) : Calls Tryz.prog 142 #[.slice none 0 0, .int .i64 n] w fun e w' => ∃ A c, e = .returned (.slice A 0 c) ∧ Own w' w.heap.size 62 2 A 0 c [] ∧ Below w.heap.size w w' := by
  by_cases h0 : n = 0
  · subst h0
    go_enter Tryz.func142, Tryz.ntmps142
    go_wp2_with fail
    go_ret
    exact ⟨none, 0, rfl, Own.nil, below_size⟩
  · obtain ⟨i, hi0, hi1⟩ := Option.map_eq_some_iff.1 info_catLam
    simp only [Prod.mk.injEq] at hi1
    obtain ⟨e1, e2, e3⟩ := hi1
    obtain ⟨G, hG⟩ : ∃ G, G = grownCap w (0 + n) 0 62 := ⟨_, rfl⟩
    have hrz : ∀ ty, (Builtin.append_ #[25, 3] ty #[.slice none 0 0, .int .i64 (n : Int)]).run Tryz.prog w = .ok (.slice (some ⟨w.heap.size, 0, none⟩) n G) (w.drew.alloc (.cells (Builtin.zeroCells (.agg #[.int .i64 0, .int .i64 0] : Value).cells n ++ Builtin.zeroCells (.agg #[.int .i64 0, .int .i64 0] : Value).cells (G - n)) 62)) := fun ty => by
      have h := Lib.run_append_grow_zeros (P := Tryz.prog) w 25 3 ty 62 i (.agg #[.int .i64 0, .int .i64 0]) .i64 .i64 Tryz.underlying25 Tryz.underlying3 hi0 e1 none 0 0 [] (run_firstCells_none w.drew i.size 0 0 0) n (by omega) (by rw [e2]; omega) (by omega) (by omega) (by rw [e3]; omega) (by rw [e3]; exact growslice_fits (by omega) (by omega))
      rw [← hG, Nat.zero_add] at h
      simpa using h
    have hGn : 0 + n ≤ G := by rw [hG]; exact grownCap_ge w _ _ _
    have hG63 : G ≤ maxLen := by rw [hG]; exact grownCap_le_maxLen w _ _ _ (by unfold maxLen; omega)
    have HG := Lib.hid hG63
    have hgm : G ≤ 9223372036854775807 := by have := hG63; unfold maxLen at this; omega
    clear hG e1 e2 e3 hG63
    go_enter Tryz.func142, Tryz.ntmps142
    go_wp2_with (at_builtin; refine Lib.wpList_append_run _ rfl _ _ _ _ rfl _ _ rfl rfl _ _ (hrz _) ?_)
    go_ret
    refine ⟨some ⟨w.heap.size, 0, none⟩, G, rfl, ?_, below_drew below_size |>.alloc (Nat.le_refl _) _⟩
    refine ⟨by simp, .inr ⟨w.heap.size, G, _, rfl, Nat.le_refl _, heap_alloc_new w.drew _, by omega, HG.out, ?_, by simp⟩⟩
    rw [← Array.length_toList]; simp [Builtin.zeroCells]; omega
set_option maxHeartbeats 2000000 in
set_option maxRecDepth 100000 in
theorem concatLam_c (A : Option Addr) (m c : Nat) (its : List ItV) (w : World) (h : RdV w 2 A m its) (hm : m ≤ 1000000) (hs : sumV its ≤ 100000000) :
    Calls Tryz.prog 103 #[.slice A m c] w (CatOut 2 (sumV its) (its.flatMap ItV.vs) w) := by
  have HL := Lib.hid h.len
  have H := Lib.hid h; clear h
  obtain ⟨N, hN⟩ : ∃ N, sumV its = N := ⟨_, rfl⟩
  rw [hN]
  have HN := Lib.hid hN
  have hNs : N ≤ 100000000 := by omega
  clear hN hs
  go_enter Tryz.func103, Tryz.ntmps103
  go_wp2_with fail
  go_loop [3, 11] (fun sv iv => ∃ j q : Nat, j ≤ m ∧ iv = .int .i64 j ∧ sv = .int .i64 q ∧ q ≤ N ∧ Hid (q = sumV (its.take j))) (fun _ iv => m - (intOf iv).toNat)
  case atStart => exact ⟨0, 0, by omega, rfl, rfl, by omega, by simp [Hid, sumV]⟩
  case round =>
    obtain ⟨j, q, hj, rfl, rfl, hq, hr⟩ := hrel
    by_cases hlt : j < m
    · obtain ⟨ad, t, rfl, ht, hc, _, _⟩ := H.out.at_ hlt
      have HS := Lib.hid (sumV_take ht)
      have HT := Lib.hid (sumV_le (its := its) (k := j + 1))
      have hqt : q + t.n ≤ N := by have h1 := hr.out; have h2 := HS.out; have h3 := HT.out; have h4 := HN.out; omega
      have HR := Lib.hid (show q + t.n = sumV (its.take (j + 1)) by have h1 := hr.out; have h2 := HS.out; omega)
      clear ht hr
      go_wp2_with fail
      go_round
      case rel => exact ⟨j + 1, q + t.n, by omega, by go_num, by go_num, hqt, HR.out⟩
      case measure => simp [intOf]; omega
    · have HQ := Lib.hid (show q = N by rw [hr.out, ← HN.out, List.take_of_length_le (by rw [HL.out]; omega)])
      clear hr
      go_wp2_with fail
      refine (growNilLam_c q _ (by omega)).mono ?_
      rintro e w1 ⟨O, oc, rfl, hO, hb⟩
      have O1 := Lib.hid hO; have B1 := Lib.hid hb
      have hz1 := hb.size
      clear hO hb
      go_wp2_with fail
      go_loopw [6, 27] (fun sv iv wr => ∃ (j p : Nat) (O : Option Addr) (oc : Nat), j ≤ m ∧ iv = .int .i64 j ∧ sv = .slice O p oc ∧ p ≤ N ∧ Hid (p = sumV (its.take j)) ∧ Hid (Own wr w.heap.size 62 2 O p oc ((its.take j).flatMap ItV.vs)) ∧ Below w.heap.size w wr) (fun _ iv _ => m - (intOf iv).toNat)
      case atStart => exact ⟨0, 0, O, oc, by omega, rfl, rfl, by omega, by simp [Hid, sumV], by unfold Hid; simpa using O1.out, B1.out⟩
      case round =>
        obtain ⟨j, p, O, oc, hj, rfl, rfl, hp, hr, hO, hb⟩ := hrel
        have HB := Lib.hid hb
        have hwz := hb.size
        by_cases hlt : j < m
        · obtain ⟨ad, t, rfl, ht, hc, hrd, hone⟩ := (H.out.below hb).at_ hlt
          have HS := Lib.hid (sumV_take ht)
          have HT := Lib.hid (sumV_le (its := its) (k := j + 1))
          have hqt : p + t.n ≤ N := by have h1 := hr.out; have h2 := HS.out; have h3 := HT.out; have h4 := HN.out; omega
          have HR := Lib.hid (show p + t.n = sumV (its.take (j + 1)) by have h1 := hr.out; have h2 := HS.out; omega)
          have HF := Lib.hid (show (its.take (j + 1)).flatMap ItV.vs = (its.take j).flatMap ItV.vs ++ t.vs by rw [take_at ht]; simp)
          have ONE := Lib.hid hone; have RD := Lib.hid hrd
          have hcap := hO.out.cap
          clear ht hr hb hrd hone
          by_cases h0 : t.n = 0
          · have HV := Lib.hid (show t.vs = [] from List.length_eq_zero_iff.1 (by have := RD.out.1; rw [h0] at this; omega))
            obtain ⟨tA, tn, tc, tv⟩ := t
            simp only at h0 hc HS hqt HR HF HV
            subst h0
            go_wp2_with (at_builtin; refine wp_app0 (by rfl) _ _ 25 62 (.agg #[.int .i64 0, .int .i64 0]) 2 16 (by rfl) Tryz.underlying25 info_catLam O p oc (by rfl) hcap tA tc (by rfl) ?_)
            go_roundw
            case rel => exact ⟨j + 1, p, O, oc, by omega, by go_num, rfl, hp, HR.out, by unfold Hid; rw [HF.out, HV.out, List.append_nil]; exact hO.out, HB.out⟩
            case measure => simp [intOf]; omega
          · obtain ⟨ta, hta, htb, htc⟩ := RD.out.2 (by omega)
            have HTC := Lib.hid htc; have HTL := Lib.hid RD.out.1
            obtain ⟨tA, tn, tc, tv⟩ := t
            simp only at h0 hc HS hqt HR HF hta htb HTC HTL ONE
            subst hta
            clear htc RD
            go_wp2_with (at_builtin; refine wp_app (by rfl) _ _ 25 62 (.agg #[.int .i64 0, .int .i64 0]) 2 16 (by rfl) Tryz.underlying25 info_catLam rfl (by omega) w.heap.size O p oc ((its.take j).flatMap ItV.vs) (by rfl) (by exact hO.out) ta tn tc tv (by rfl) (by omega) HTL.out (by exact HTC.out) ONE.out (by omega) (by omega) hwz ?_; intro g' cap w3 own3 hb3 hk3 hg3 hz3)
            have O3 := Lib.hid own3
            have B3 := Lib.hid (HB.out.trans hb3)
            clear own3 hb3 hk3 hg3 hz3
            go_wp2_with fail
            go_roundw
            case rel => exact ⟨j + 1, p + tn, some ⟨g', 0, none⟩, cap, by omega, by go_num, rfl, hqt, HR.out, by unfold Hid; rw [HF.out]; exact O3.out, B3.out⟩
            case measure => simp [intOf]; omega
        · have e1 := Lib.hid (show its.take j = its from List.take_of_length_le (by rw [HL.out]; omega))
          have HP := Lib.hid (show p = N by rw [hr.out, e1.out, HN.out])
          clear hb hr
          go_wp2_with fail
          go_ret
          have h1 := hO.out
          rw [e1.out] at h1
          have hp2 := HP.out
          subst hp2
          exact ⟨O, oc, rfl, h1.wrK, h1.cap, HB.out⟩
theorem info_catComb : (Tryz.prog.info? 100).map (fun i => (i.zero, i.size, i.bytes)) = some (some (.agg #[.int .i64 0, .int .i64 0]), 2, 16) := by kernel_rfl
set_option maxHeartbeats 1000000 in
set_option maxRecDepth 100000 in
theorem growNilComb_c (n : Nat) (w : World) (hn : n ≤ 100000000) : Calls Tryz.prog 188 #[.slice none 0 0, .int .i64 n] w fun e w' => ∃ A c, e = .returned (.slice A 0 c) ∧ Own w' w.heap.size 100 2 A 0 c [] ∧ Below w.heap.size w w' := by
  by_cases h0 : n = 0
  · subst h0
    go_enter Tryz.func188, Tryz.ntmps188
    go_wp2_with fail
    go_ret
    exact ⟨none, 0, rfl, Own.nil, below_size⟩
  · obtain ⟨i, hi0, hi1⟩ := Option.map_eq_some_iff.1 info_catComb
    simp only [Prod.mk.injEq] at hi1
    obtain ⟨e1, e2, e3⟩ := hi1
    obtain ⟨G, hG⟩ : ∃ G, G = grownCap w (0 + n) 0 100 := ⟨_, rfl⟩
    have hrz : ∀ ty, (Builtin.append_ #[37, 3] ty #[.slice none 0 0, .int .i64 (n : Int)]).run Tryz.prog w = .ok (.slice (some ⟨w.heap.size, 0, none⟩) n G) (w.drew.alloc (.cells (Builtin.zeroCells (.agg #[.int .i64 0, .int .i64 0] : Value).cells n ++ Builtin.zeroCells (.agg #[.int .i64 0, .int .i64 0] : Value).cells (G - n)) 100)) := fun ty => by
      have h := Lib.run_append_grow_zeros (P := Tryz.prog) w 37 3 ty 100 i (.agg #[.int .i64 0, .int .i64 0]) .i64 .i64 Tryz.underlying37 Tryz.underlying3 hi0 e1 none 0 0 [] (run_firstCells_none w.drew i.size 0 0 0) n (by omega) (by rw [e2]; omega) (by omega) (by omega) (by rw [e3]; omega) (by rw [e3]; exact growslice_fits (by omega) (by omega))
      rw [← hG, Nat.zero_add] at h
      simpa using h
    have hGn : 0 + n ≤ G := by rw [hG]; exact grownCap_ge w _ _ _
    have hG63 : G ≤ maxLen := by rw [hG]; exact grownCap_le_maxLen w _ _ _ (by unfold maxLen; omega)
    have HG := Lib.hid hG63
    have hgm : G ≤ 9223372036854775807 := by have := hG63; unfold maxLen at this; omega
    clear hG e1 e2 e3 hG63
    go_enter Tryz.func188, Tryz.ntmps188
    go_wp2_with (at_builtin; refine Lib.wpList_append_run _ rfl _ _ _ _ rfl _ _ rfl rfl _ _ (hrz _) ?_)
    go_ret
    refine ⟨some ⟨w.heap.size, 0, none⟩, G, rfl, ?_, below_drew below_size |>.alloc (Nat.le_refl _) _⟩
    refine ⟨by simp, .inr ⟨w.heap.size, G, _, rfl, Nat.le_refl _, heap_alloc_new w.drew _, by omega, HG.out, ?_, by simp⟩⟩
    rw [← Array.length_toList]; simp [Builtin.zeroCells]; omega
set_option maxHeartbeats 2000000 in
set_option maxRecDepth 100000 in
theorem concatComb_c (A : Option Addr) (m c : Nat) (its : List ItV) (w : World) (h : RdV w 2 A m its) (hm : m ≤ 1000000) (hs : sumV its ≤ 100000000) :
    Calls Tryz.prog 146 #[.slice A m c] w (CatOut 2 (sumV its) (its.flatMap ItV.vs) w) := by
  have HL := Lib.hid h.len
  have H := Lib.hid h; clear h
  obtain ⟨N, hN⟩ : ∃ N, sumV its = N := ⟨_, rfl⟩
  rw [hN]
  have HN := Lib.hid hN
  have hNs : N ≤ 100000000 := by omega
  clear hN hs
  go_enter Tryz.func146, Tryz.ntmps146
  go_wp2_with fail
  go_loop [3, 11] (fun sv iv => ∃ j q : Nat, j ≤ m ∧ iv = .int .i64 j ∧ sv = .int .i64 q ∧ q ≤ N ∧ Hid (q = sumV (its.take j))) (fun _ iv => m - (intOf iv).toNat)
  case atStart => exact ⟨0, 0, by omega, rfl, rfl, by omega, by simp [Hid, sumV]⟩
  case round =>
    obtain ⟨j, q, hj, rfl, rfl, hq, hr⟩ := hrel
    by_cases hlt : j < m
    · obtain ⟨ad, t, rfl, ht, hc, _, _⟩ := H.out.at_ hlt
      have HS := Lib.hid (sumV_take ht)
      have HT := Lib.hid (sumV_le (its := its) (k := j + 1))
      have hqt : q + t.n ≤ N := by have h1 := hr.out; have h2 := HS.out; have h3 := HT.out; have h4 := HN.out; omega
      have HR := Lib.hid (show q + t.n = sumV (its.take (j + 1)) by have h1 := hr.out; have h2 := HS.out; omega)
      clear ht hr
      go_wp2_with fail
      go_round
      case rel => exact ⟨j + 1, q + t.n, by omega, by go_num, by go_num, hqt, HR.out⟩
      case measure => simp [intOf]; omega
    · have HQ := Lib.hid (show q = N by rw [hr.out, ← HN.out, List.take_of_length_le (by rw [HL.out]; omega)])
      clear hr
      go_wp2_with fail
      refine (growNilComb_c q _ (by omega)).mono ?_
      rintro e w1 ⟨O, oc, rfl, hO, hb⟩
      have O1 := Lib.hid hO; have B1 := Lib.hid hb
      have hz1 := hb.size
      clear hO hb
      go_wp2_with fail
      go_loopw [6, 27] (fun sv iv wr => ∃ (j p : Nat) (O : Option Addr) (oc : Nat), j ≤ m ∧ iv = .int .i64 j ∧ sv = .slice O p oc ∧ p ≤ N ∧ Hid (p = sumV (its.take j)) ∧ Hid (Own wr w.heap.size 100 2 O p oc ((its.take j).flatMap ItV.vs)) ∧ Below w.heap.size w wr) (fun _ iv _ => m - (intOf iv).toNat)
      case atStart => exact ⟨0, 0, O, oc, by omega, rfl, rfl, by omega, by simp [Hid, sumV], by unfold Hid; simpa using O1.out, B1.out⟩
      case round =>
        obtain ⟨j, p, O, oc, hj, rfl, rfl, hp, hr, hO, hb⟩ := hrel
        have HB := Lib.hid hb
        have hwz := hb.size
        by_cases hlt : j < m
        · obtain ⟨ad, t, rfl, ht, hc, hrd, hone⟩ := (H.out.below hb).at_ hlt
          have HS := Lib.hid (sumV_take ht)
          have HT := Lib.hid (sumV_le (its := its) (k := j + 1))
          have hqt : p + t.n ≤ N := by have h1 := hr.out; have h2 := HS.out; have h3 := HT.out; have h4 := HN.out; omega
          have HR := Lib.hid (show p + t.n = sumV (its.take (j + 1)) by have h1 := hr.out; have h2 := HS.out; omega)
          have HF := Lib.hid (show (its.take (j + 1)).flatMap ItV.vs = (its.take j).flatMap ItV.vs ++ t.vs by rw [take_at ht]; simp)
          have ONE := Lib.hid hone; have RD := Lib.hid hrd
          have hcap := hO.out.cap
          clear ht hr hb hrd hone
          by_cases h0 : t.n = 0
          · have HV := Lib.hid (show t.vs = [] from List.length_eq_zero_iff.1 (by have := RD.out.1; rw [h0] at this; omega))
            obtain ⟨tA, tn, tc, tv⟩ := t
            simp only at h0 hc HS hqt HR HF HV
            subst h0
            go_wp2_with (at_builtin; refine wp_app0 (by rfl) _ _ 37 100 (.agg #[.int .i64 0, .int .i64 0]) 2 16 (by rfl) Tryz.underlying37 info_catComb O p oc (by rfl) hcap tA tc (by rfl) ?_)
            go_roundw
            case rel => exact ⟨j + 1, p, O, oc, by omega, by go_num, rfl, hp, HR.out, by unfold Hid; rw [HF.out, HV.out, List.append_nil]; exact hO.out, HB.out⟩
            case measure => simp [intOf]; omega
          · obtain ⟨ta, hta, htb, htc⟩ := RD.out.2 (by omega)
            have HTC := Lib.hid htc; have HTL := Lib.hid RD.out.1
            obtain ⟨tA, tn, tc, tv⟩ := t
            simp only at h0 hc HS hqt HR HF hta htb HTC HTL ONE
            subst hta
            clear htc RD
            go_wp2_with (at_builtin; refine wp_app (by rfl) _ _ 37 100 (.agg #[.int .i64 0, .int .i64 0]) 2 16 (by rfl) Tryz.underlying37 info_catComb rfl (by omega) w.heap.size O p oc ((its.take j).flatMap ItV.vs) (by rfl) (by exact hO.out) ta tn tc tv (by rfl) (by omega) HTL.out (by exact HTC.out) ONE.out (by omega) (by omega) hwz ?_; intro g' cap w3 own3 hb3 hk3 hg3 hz3)
            have O3 := Lib.hid own3
            have B3 := Lib.hid (HB.out.trans hb3)
            clear own3 hb3 hk3 hg3 hz3
            go_wp2_with fail
            go_roundw
            case rel => exact ⟨j + 1, p + tn, some ⟨g', 0, none⟩, cap, by omega, by go_num, rfl, hqt, HR.out, by unfold Hid; rw [HF.out]; exact O3.out, B3.out⟩
            case measure => simp [intOf]; omega
        · have e1 := Lib.hid (show its.take j = its from List.take_of_length_le (by rw [HL.out]; omega))
          have HP := Lib.hid (show p = N by rw [hr.out, e1.out, HN.out])
          clear hb hr
          go_wp2_with fail
          go_ret
          have h1 := hO.out
          rw [e1.out] at h1
          have hp2 := HP.out
          subst hp2
          exact ⟨O, oc, rfl, h1.wrK, h1.cap, HB.out⟩
end Go.Proofs.YtebjpmmgdkepjaaGreatDoor
/-
  A slice of the call's own, cut down. Nothing of the program.
-/
namespace Go.Proofs.YtebjpmmgdkepjaaGreatDoor
open Go.RowKit

theorem Own.cut {w : World} {B k n m c : Nat} {e : TypeId} {A : Option Addr} {vs : List Value} (h : Own w B e k A n c vs) (hm : m ≤ n) (hA : A ≠ none) : Own w B e k A m c (vs.take (m * k)) := by
  refine ⟨by rw [List.length_take, h.1, Nat.min_eq_left (Nat.mul_le_mul_right k hm)], ?_⟩
  rcases h.2 with ⟨hv, h0⟩ | ⟨g, cap, cur, hv, hB, hh, h1, h2, h3, h4⟩
  · injection hv with ha; exact absurd ha hA
  · injection hv with ha _ hc
    subst hc
    exact .inr ⟨g, c, cur, by rw [ha], hB, hh, by omega, h2, h3, by rw [← h4, List.take_take, Nat.min_eq_left (Nat.mul_le_mul_right k hm)]⟩
theorem Own.fullK {w : World} {B k m : Nat} {e : TypeId} {vs : List Value} {cs : Array Value} (hB : B ≤ w.heap.size) (hv : cs.toList = vs) (hl : vs.length = m * k) (hm : m ≤ 1000000) : Own (w.alloc (.cells cs e)) B e k (some ⟨w.heap.size, 0, none⟩) m m vs := by
  refine ⟨hl, .inr ⟨w.heap.size, m, cs, rfl, hB, heap_alloc_new w _, Nat.le_refl _, by simp [maxLen]; omega, ?_, ?_⟩⟩
  · rw [← Array.length_toList, hv, hl]
  · rw [hv]; exact List.take_of_length_le (by rw [hl]; exact Nat.le_refl _)
theorem Own.widen {w : World} {B B' : Nat} {e : TypeId} {size n c : Nat} {A : Option Addr} {vs : List Value} (h : Own w B e size A n c vs) (hB : B' ≤ B) : Own w B' e size A n c vs := by
  refine ⟨h.1, ?_⟩
  rcases h.2 with h1 | ⟨g, cap, cur, hv, h2, h3⟩
  · exact .inl h1
  · exact .inr ⟨g, cap, cur, hv, Nat.le_trans hB h2, h3⟩
theorem Rd.atBlk {w w' : World} {A : Option Addr} {n : Nat} {vs : List Value} (h : Rd w A n vs) (hk : ∀ a, A = some a → 0 < n → w'.heap[a.block]? = w.heap[a.block]?) (hs : w.heap.size ≤ w'.heap.size) : Rd w' A n vs :=
  ⟨h.1, fun hn => by
    obtain ⟨ad, e, hlt, hc⟩ := h.2 hn
    exact ⟨ad, e, Nat.lt_of_lt_of_le hlt hs, fun j u hu => (World.cell?_of_block (a := ad.add j) (by rw [block_add]; exact hk ad e hn)).trans (hc j u hu)⟩⟩
end Go.Proofs.YtebjpmmgdkepjaaGreatDoor
/-
  Contracts of chapter 18: numbers put in their places; names and applications of the reference.
-/
namespace Go.Proofs.YtebjpmmgdkepjaaGreatDoor
open Go.RowKit

/-- numbers of the call's own, that may grow -/
def OwnOut (xs : List Int) (w : World) (e : Ending) (w' : World) : Prop := ∃ A c, e = .returned (.slice A xs.length c) ∧ Own w' w.heap.size 2 1 A xs.length c (xs.map i64) ∧ Below w.heap.size w w'
set_option maxHeartbeats 4000000 in
set_option maxRecDepth 100000 in
theorem l00Put_c (A : Option Addr) (n c : Nat) (xs : List Int) (v : Int) (w : World) (h : RdI w A n xs) (hn : n ≤ 1000000) :
    Calls Tryz.prog 173 #[.slice A n c, .int .i64 v] w (OwnOut (putS v xs) w) := by
  have HL := Lib.hid h.len
  have H := Lib.hid h; clear h
  obtain ⟨R, hR⟩ : ∃ R, putS v xs = R := ⟨_, rfl⟩
  rw [hR]
  have HR := Lib.hid hR
  clear hR
  go_enter Tryz.func173, Tryz.ntmps173
  go_wp2_with fail
  go_loopw [5, 6, 7] (fun ov dv iv wr => ∃ (k m cc : Nat) (O : Option Addr) (acc : List Int) (d : Bool), k ≤ n ∧ m ≤ k + 1 ∧ (d = false → m ≤ k) ∧ iv = .int .i64 k ∧ dv = .bool d ∧ ov = .slice O m cc ∧ Hid (Own wr w.heap.size 2 1 O m cc (acc.map i64)) ∧ Hid (acc ++ (if d = true then xs.drop k else putS v (xs.drop k)) = R) ∧ Below w.heap.size w wr) (fun _ _ iv _ => n - (intOf iv).toNat)
  case atStart => exact ⟨0, 0, 0, some ⟨w.heap.size, 0, none⟩, [], false, by omega, by omega, fun _ => by omega, rfl, rfl, rfl, Own.lit (Nat.le_refl _), HR.out, below_size.alloc (Nat.le_refl _) _⟩
  case round =>
    obtain ⟨k, m, cc, O, acc, d, hk, hmk, hmd, rfl, rfl, rfl, hO, hr, hb⟩ := hrel
    have HB := Lib.hid hb
    have hwz := hb.size
    by_cases hlt : k < n
    · obtain ⟨ad, x, rfl, hab, hx, hc⟩ := (RdI.below H.out hb).at_ hlt
      have HX := Lib.hid hx
      clear hx hb
      cases d
      · have HS := Lib.hid (show acc ++ putS v (x :: xs.drop (k + 1)) = R by rw [← hr.out, drop_at HX.out]; rfl)
        clear hr
        by_cases hge : v ≤ x
        · have g1 : decide (v ≤ x) = true := by simpa using hge
          by_cases heq : x = v
          · subst heq
            have g2 : decide (x < x) = false := by simp
            have HG := Lib.hid (show (acc ++ [x]) ++ xs.drop (k + 1) = R by rw [← HS.out, putS, if_pos hge, if_pos rfl]; simp)
            clear HS
            go_wp2_with (at_builtin; refine wp_app1 (by rfl) _ _ 29 2 (.int .i64 0) 8 (by rfl) Tryz.underlying29 info_i64 rfl w.heap.size O m cc (acc.map i64) (by rfl) (by exact hO.out.alloc _) wr.heap.size (i64 x) (by rfl) (by exact new_cell _ _ _ 0) rfl (by omega) (by omega) (by simp; omega) ?_; intro g' cap w3 own3 hb3 hk3 hg3 hz3)
            have O3 := Lib.hid own3; have B3 := Lib.hid ((HB.out.alloc hwz _).trans hb3)
            clear own3 hb3 hk3 hg3 hz3
            go_wp2_with fail
            go_roundw
            case rel => exact ⟨k + 1, m + 1, cap, some ⟨g', 0, none⟩, acc ++ [x], true, by omega, by omega, (fun h => by cases h), by go_num, rfl, rfl, by unfold Hid; rw [List.map_append]; exact O3.out, HG.out, B3.out⟩
            case measure => simp [intOf]; omega
          · have g2 : decide (v < x) = true := by rw [decide_eq_true_eq]; omega
            have HG := Lib.hid (show (acc ++ [v] ++ [x]) ++ xs.drop (k + 1) = R by rw [← HS.out, putS, if_pos hge, if_neg heq]; simp)
            clear HS
            have hm1 := hmd rfl
            go_wp2_with (first
              | (at_builtin; refine wp_app1 (by rfl) _ _ 29 2 (.int .i64 0) 8 (by rfl) Tryz.underlying29 info_i64 rfl w.heap.size O m cc (acc.map i64) (by rfl) (by exact hO.out.alloc _) wr.heap.size (i64 v) (by rfl) (by exact new_cell _ _ _ 0) rfl (by omega) (by omega) (by simp; omega) ?_; intro g2 cap2 w2 own2 hb2 hk2 hg2 hz2; have O2 := Lib.hid own2; have B2 := Lib.hid ((HB.out.alloc hwz _).trans hb2); have hz22 := B2.out.size; have hc2 : w2.cell? (ad.add k) = some (.int .i64 x) := by obtain ⟨_, y, e, _, hy, hc'⟩ := (RdI.below H.out B2.out).at_ hlt; injection e with e; subst e; have := HX.out; rw [hy] at this; injection this with this; rw [← this]; exact hc')
              | (at_builtin; refine wp_app1 (by rfl) _ _ 29 2 (.int .i64 0) 8 (by rfl) Tryz.underlying29 info_i64 rfl w.heap.size (some ⟨g2, 0, none⟩) (m + 1) cap2 (acc.map i64 ++ [i64 v]) (by rfl) (by exact O2.out.alloc _) w2.heap.size (i64 x) (by rfl) (by exact new_cell _ _ _ 0) rfl (by omega) (by omega) (by simp; omega) ?_; intro g' cap w3 own3 hb3 hk3 hg3 hz3))
            have O3 := Lib.hid own3; have B3 := Lib.hid ((B2.out.alloc hz22 _).trans hb3)
            clear own3 hb3 hk3 hg3 hz3
            go_wp2_with fail
            go_roundw
            case rel => exact ⟨k + 1, m + 1 + 1, cap, some ⟨g', 0, none⟩, acc ++ [v] ++ [x], true, by omega, by omega, (fun h => by cases h), by go_num, rfl, rfl, by unfold Hid; rw [List.map_append, List.map_append]; exact O3.out, HG.out, B3.out⟩
            case measure => simp [intOf]; omega
        · have g1 : decide (v ≤ x) = false := by simpa using hge
          have HG := Lib.hid (show (acc ++ [x]) ++ putS v (xs.drop (k + 1)) = R by rw [← HS.out, putS, if_neg hge]; simp)
          clear HS
          go_wp2_with (at_builtin; refine wp_app1 (by rfl) _ _ 29 2 (.int .i64 0) 8 (by rfl) Tryz.underlying29 info_i64 rfl w.heap.size O m cc (acc.map i64) (by rfl) (by exact hO.out.alloc _) wr.heap.size (i64 x) (by rfl) (by exact new_cell _ _ _ 0) rfl (by omega) (by omega) (by simp; omega) ?_; intro g' cap w3 own3 hb3 hk3 hg3 hz3)
          have O3 := Lib.hid own3; have B3 := Lib.hid ((HB.out.alloc hwz _).trans hb3)
          clear own3 hb3 hk3 hg3 hz3
          go_wp2_with fail
          go_roundw
          case rel => exact ⟨k + 1, m + 1, cap, some ⟨g', 0, none⟩, acc ++ [x], false, by omega, by omega, (fun _ => by have := hmd rfl; omega), by go_num, rfl, rfl, by unfold Hid; rw [List.map_append]; exact O3.out, HG.out, B3.out⟩
          case measure => simp [intOf]; omega
      · have HG := Lib.hid (show (acc ++ [x]) ++ xs.drop (k + 1) = R by rw [← hr.out, drop_at HX.out]; simp)
        clear hr
        go_wp2_with (at_builtin; refine wp_app1 (by rfl) _ _ 29 2 (.int .i64 0) 8 (by rfl) Tryz.underlying29 info_i64 rfl w.heap.size O m cc (acc.map i64) (by rfl) (by exact hO.out.alloc _) wr.heap.size (i64 x) (by rfl) (by exact new_cell _ _ _ 0) rfl (by omega) (by omega) (by simp; omega) ?_; intro g' cap w3 own3 hb3 hk3 hg3 hz3)
        have O3 := Lib.hid own3; have B3 := Lib.hid ((HB.out.alloc hwz _).trans hb3)
        clear own3 hb3 hk3 hg3 hz3
        go_wp2_with fail
        go_roundw
        case rel => exact ⟨k + 1, m + 1, cap, some ⟨g', 0, none⟩, acc ++ [x], true, by omega, by omega, (fun h => by cases h), by go_num, rfl, rfl, by unfold Hid; rw [List.map_append]; exact O3.out, HG.out, B3.out⟩
        case measure => simp [intOf]; omega
    · obtain rfl : k = n := by omega
      have HE := Lib.hid (show xs.drop k = [] from List.drop_eq_nil_of_le (by rw [HL.out]; exact Nat.le_refl _))
      clear hb
      cases d
      · have HG := Lib.hid (show acc ++ [v] = R by rw [← hr.out, HE.out]; rfl)
        have hm1 := hmd rfl
        clear hr
        go_wp2_with (at_builtin; refine wp_app1 (by rfl) _ _ 29 2 (.int .i64 0) 8 (by rfl) Tryz.underlying29 info_i64 rfl w.heap.size O m cc (acc.map i64) (by rfl) (by exact hO.out.alloc _) wr.heap.size (i64 v) (by rfl) (by exact new_cell _ _ _ 0) rfl (by omega) (by omega) (by simp; omega) ?_; intro g' cap w3 own3 hb3 hk3 hg3 hz3)
        have O3 := Lib.hid (show Own w3 w.heap.size 2 1 (some ⟨g', 0, none⟩) (m + 1) cap (R.map i64) by rw [← HG.out, List.map_append]; exact own3)
        have B3 := Lib.hid ((HB.out.alloc hwz _).trans hb3)
        clear own3 hb3 hk3 hg3 hz3
        have hl := O3.out.wr.rdI.len
        go_wp2_with fail
        go_ret
        exact ⟨some ⟨g', 0, none⟩, cap, by rw [hl]; rfl, by rw [hl]; exact O3.out, B3.out⟩
      · have HG := Lib.hid (show acc = R by rw [← hr.out, HE.out]; simp)
        clear hr
        have O3 := Lib.hid (show Own wr w.heap.size 2 1 O m cc (R.map i64) by rw [← HG.out]; exact hO.out)
        have hl := O3.out.wr.rdI.len
        go_wp2_with fail
        go_ret
        exact ⟨O, cc, by rw [hl]; rfl, by rw [hl]; exact O3.out, HB.out⟩
set_option maxHeartbeats 2000000 in
theorem l18Names_c (A : Option Addr) (n cp : Nat) (c : List (Int × Int)) (R : List Int) (w : World) (h : Rd2 w A n c) (hn : n ≤ 100000) (hR : namesC c = R) :
    Calls Tryz.prog 131 #[.slice A n cp] w (OwnOut R w) := by
  have HL := Lib.hid h.len
  have H := Lib.hid h; have HR := Lib.hid hR; clear h hR
  go_enter Tryz.func131, Tryz.ntmps131
  go_wp2_with fail
  go_loopw [3, 4] (fun ov iv wr => ∃ (k cc : Nat) (O : Option Addr) (acc : List Int), k ≤ n ∧ acc.length ≤ k ∧ iv = .int .i64 k ∧ ov = .slice O acc.length cc ∧ Hid (Own wr w.heap.size 2 1 O acc.length cc (acc.map i64)) ∧ Hid ((varsC (c.drop k)).foldl (fun out v => putS v out) acc = R) ∧ Below w.heap.size w wr) (fun _ iv _ => n - (intOf iv).toNat)
  case atStart => exact ⟨0, 0, some ⟨w.heap.size, 0, none⟩, [], by omega, by simp, rfl, rfl, Own.lit (Nat.le_refl _), HR.out, below_size.alloc (Nat.le_refl _) _⟩
  case round =>
    obtain ⟨k, cc, O, acc, hk, hak, rfl, rfl, hO, hr, hb⟩ := hrel
    have HB := Lib.hid hb
    have hwz := hb.size
    by_cases hlt : k < n
    · obtain ⟨ad, x, rfl, hab, hx, hc0, hc1⟩ := (H.out.below hb).at_ hlt
      obtain ⟨t, v⟩ := x
      have HS := Lib.hid (show (varsC ((t, v) :: c.drop (k + 1))).foldl (fun out v => putS v out) acc = R by rw [← hr.out, drop_at hx])
      simp only at hc0 hc1
      clear hx hb hr
      by_cases h4 : t = 4
      · subst h4
        have HG := Lib.hid (show (varsC (c.drop (k + 1))).foldl (fun out v => putS v out) (putS v acc) = R by rw [← HS.out]; simp [varsC])
        have hpl := putS_len (v := v) (l := acc)
        go_wp2_with (go_at_call 173; refine (l00Put_c _ _ _ acc v _ hO.out.wr.rdI (by omega)).mono ?_; rintro e w2 ⟨A2, c2, rfl, ho2, hb2⟩)
        go_roundw
        case rel => exact ⟨k + 1, c2, A2, putS v acc, by omega, by omega, by go_num, rfl, ho2.widen hwz, HG.out, below_chain HB.out hwz hb2⟩
        case measure => simp [intOf]; omega
      · have g4 : (t == 4) = false := by simpa using h4
        have HG := Lib.hid (show (varsC (c.drop (k + 1))).foldl (fun out v => putS v out) acc = R by rw [← HS.out]; simp [varsC, h4])
        go_wp2_with fail
        go_roundw
        case rel => exact ⟨k + 1, cc, O, acc, by omega, by omega, by go_num, rfl, hO.out, HG.out, HB.out⟩
        case measure => simp [intOf]; omega
    · have HG := Lib.hid (show acc = R by rw [← hr.out, List.drop_eq_nil_of_le (by rw [HL.out]; omega)]; rfl)
      clear hr hb
      go_wp2_with fail
      go_ret
      rw [← HG.out]
      exact ⟨O, cc, rfl, hO.out, HB.out⟩
theorem l18Name_c (v : Int) (w : World) : Calls Tryz.prog 91 #[.int .i64 v] w fun e w' => e = .returned (.slice (some ⟨w.heap.size, 0, none⟩) 1 1) ∧ w' = w.alloc (.cells #[.int .i64 4, .int .i64 v] 100) := by
  go_enter Tryz.func91, Tryz.ntmps91
  go_wp2_with fail
  go_ret
  exact ⟨rfl, rfl⟩
end Go.Proofs.YtebjpmmgdkepjaaGreatDoor
/-
  Contracts of chapter 12: combinator terms of the program: valid ones, ends, arguments.
-/
namespace Go.Proofs.YtebjpmmgdkepjaaGreatDoor
open Go.RowKit

theorem combFollow_c (a b : Int) (w : World) : Calls Tryz.prog 112 #[.agg #[.int .i64 a, .int .i64 b]] w fun e w' => e = .returned (.int .i64 (manyC a)) ∧ Below w.heap.size w w' := by
  by_cases h : a = 0
  · subst h
    go_enter Tryz.func112, Tryz.ntmps112
    go_wp2_with fail
    go_ret
    exact ⟨rfl, (by have hzz := ((below_size : Below w.heap.size w w)).size; repeat' (first | (with_reducible exact (below_size : Below w.heap.size w w)) | (with_reducible refine Below.alloc ?_ ?_ _) | (with_reducible refine Below.setCell ?_ ?_ _) | (with_reducible refine below_drew ?_) | omega | (simp; done) | (simp; omega)))⟩
  · have g : (a == 0) = false := by simpa using h
    have hm : manyC a = 0 := by rw [manyC, if_neg h]
    rw [hm]
    go_enter Tryz.func112, Tryz.ntmps112
    go_wp2_with fail
    go_ret
    exact ⟨rfl, (by have hzz := ((below_size : Below w.heap.size w w)).size; repeat' (first | (with_reducible exact (below_size : Below w.heap.size w w)) | (with_reducible refine Below.alloc ?_ ?_ _) | (with_reducible refine Below.setCell ?_ ?_ _) | (with_reducible refine below_drew ?_) | omega | (simp; done) | (simp; omega)))⟩
set_option maxHeartbeats 1000000 in
theorem termEndComb_c (A : Option Addr) (n cp : Nat) (c : List (Int × Int)) (k : Nat) (z : Int) (w : World) (h : Rd2 w A n c) (hn : n ≤ 1000000000) (hkn : k ≤ n) (hz : resE manyC c k 1 = z) :
    Calls Tryz.prog 111 #[.slice A n cp, .int .i64 k, .func (.func 112) #[] #[]] w fun e w' => e = .returned (.int .i64 z) ∧ Below w.heap.size w w' := by
  have HL := Lib.hid h.len
  have HZ := Lib.hid hz
  have H := Lib.hid h; clear h hz
  go_enter Tryz.func111, Tryz.ntmps111
  go_wp2_with fail
  go_loopw [1, 7] (fun kv ov wr => ∃ j o : Nat, j ≤ n ∧ o ≤ j + 1 ∧ kv = .int .i64 j ∧ ov = .int .i64 o ∧ Hid (resE manyC c j o = z) ∧ Below w.heap.size w wr) (fun kv _ _ => n - (intOf kv).toNat)
  case atStart => exact ⟨k, 1, hkn, by omega, rfl, rfl, HZ.out, below_size⟩
  case round =>
    obtain ⟨j, o, hj, ho, rfl, rfl, hr, hb⟩ := hrel
    have HB := Lib.hid hb
    by_cases ho0 : o = 0
    · subst ho0
      have HR := Lib.hid (show (j : Int) = z by rw [← hr.out, resE_zero])
      clear hr hb
      go_wp2_with fail
      go_ret
      exact ⟨by rw [← HR.out]; rfl, HB.out⟩
    have g0 : decide ((0 : Int) < (o : Int)) = true := by rw [decide_eq_true_eq]; omega
    by_cases hlt : j < n
    · obtain ⟨ad, x, rfl, hab, hx, hc0, hc1⟩ := (H.out.below hb).at_ hlt
      have HR := Lib.hid (show resE manyC c (j + 1) (o - 1 + manyC x.1) = z by rw [← hr.out, show o = o - 1 + 1 by omega, resE_step hx, Nat.add_sub_cancel])
      obtain ⟨t, v⟩ := x
      simp only at hc0 hc1 HR
      clear hr hx hb
      have hm : manyC t ≤ 2 := by unfold manyC; split <;> omega
      obtain ⟨f, hf⟩ : ∃ f, manyC t = f := ⟨_, rfl⟩
      have HC := Lib.hid (show ∀ w, Calls Tryz.prog 112 #[.agg #[.int .i64 t, .int .i64 v]] w fun e w' => e = .returned (.int .i64 f) ∧ Below w.heap.size w w' from fun w => by rw [← hf]; exact combFollow_c t v w)
      rw [hf] at HR hm
      have v1 : IntKind.i64.wrap ((f : Int) - 1) = (f : Int) - 1 := IntWalk.i64_in _ (by omega)
      have v2 : IntKind.i64.wrap ((o : Int) + ((f : Int) - 1)) = ((o - 1 + f : Nat) : Int) := by rw [IntWalk.i64_in _ (by omega)]; omega
      clear hf
      go_wp2_with (go_at_call 112; refine (HC.out _).mono ?_; rintro e w2 ⟨rfl, hb2⟩)
      go_roundw
      case rel => exact ⟨j + 1, o - 1 + f, by omega, by omega, by go_num, by go_num, HR.out, below_chain HB.out HB.out.size hb2⟩
      case measure => simp [intOf]; omega
    · have HR := Lib.hid (show (-1 : Int) = z by rw [← hr.out, show o = o - 1 + 1 by omega, resE_past (by rw [HL.out]; omega)])
      clear hr hb
      go_wp2_with fail
      go_ret
      exact ⟨by rw [← HR.out]; rfl, HB.out⟩
theorem combEnd_c (A : Option Addr) (n cp : Nat) (c : List (Int × Int)) (k : Nat) (z : Int) (w : World) (h : Rd2 w A n c) (hn : n ≤ 1000000000) (hkn : k ≤ n) (hz : resE manyC c k 1 = z) :
    Calls Tryz.prog 69 #[.slice A n cp, .int .i64 k] w fun e w' => e = .returned (.int .i64 z) ∧ Below w.heap.size w w' := by
  go_enter Tryz.func69, Tryz.ntmps69
  go_wp2_with (go_at_call 111; refine (termEndComb_c _ _ _ c k z _ h hn hkn hz).mono ?_; rintro e w2 ⟨rfl, hb2⟩)
  go_ret
  exact ⟨rfl, hb2⟩
theorem sizeComb_c (A : Option Addr) (n c : Nat) (w : World) (_hn : n ≤ 1000000000000) :
    Calls Tryz.prog 68 #[.slice A n c] w fun e w' => e = .returned (.int .i64 n) ∧ w = w' := by
  go_enter Tryz.func68, Tryz.ntmps68
  go_wp2
  go_ret
  exact ⟨rfl, rfl⟩
set_option maxHeartbeats 2000000 in
set_option maxRecDepth 100000 in
theorem validComb_c (A : Option Addr) (n cp : Nat) (c : List (Int × Int)) (q : Bool) (w : World) (h : Rd2 w A n c) (hn : n ≤ 1000000000) (hq : validC c = q) :
    Calls Tryz.prog 37 #[.slice A n cp] w fun e w' => e = .returned (.bool q) ∧ Below w.heap.size w w' := by
  have HL := Lib.hid h.len
  have HQ := Lib.hid (show (inB n 1 400 && c.all okC && decide (endP manyC c 1 = some c.length)) = q by rw [← hq, validC, h.len])
  have H := Lib.hid h; clear h hq
  cases hb1 : inB n 1 400
  · have HF := Lib.hid (show false = q by rw [← HQ.out, hb1]; rfl)
    go_enter Tryz.func37, Tryz.ntmps37
    go_wp2_with (first | (go_at_call 68; refine (sizeComb_c _ _ _ _ (by omega)).mono ?_; rintro e w' ⟨rfl, rfl⟩) | (go_at_call 24; refine (within_b _ _ _ _ (by assumption) _).mono ?_; rintro e w' ⟨rfl, rfl⟩))
    go_ret
    exact ⟨by rw [← HF.out]; rfl, below_size⟩
  have HF := Lib.hid (show (c.all okC && decide (endP manyC c 1 = some c.length)) = q by rw [← HQ.out, hb1]; rfl)
  have hn1 := inB_t hb1
  clear HQ
  go_enter Tryz.func37, Tryz.ntmps37
  go_wp2_with (first | (go_at_call 68; refine (sizeComb_c _ _ _ _ (by omega)).mono ?_; rintro e w' ⟨rfl, rfl⟩) | (go_at_call 24; refine (within_b _ _ _ _ (by assumption) _).mono ?_; rintro e w' ⟨rfl, rfl⟩))
  go_loopw [11] (fun iv wr => ∃ k : Nat, k ≤ n ∧ iv = .int .i64 k ∧ Hid (((c.drop k).all okC && decide (endP manyC c 1 = some c.length)) = q) ∧ Below w.heap.size w wr) (fun iv _ => n - (intOf iv).toNat)
  case atStart => exact ⟨0, by omega, rfl, HF.out, below_size⟩
  case round =>
    obtain ⟨k, hk, rfl, hr, hb⟩ := hrel
    have HB := Lib.hid hb
    by_cases hlt : k < n
    · obtain ⟨ad, x, rfl, hab, hx, hc0, hc1⟩ := (H.out.below hb).at_ hlt
      obtain ⟨p, v⟩ := x
      have HS := Lib.hid (show (okC (p, v) && ((c.drop (k + 1)).all okC && decide (endP manyC c 1 = some c.length))) = q by rw [← hr.out, drop_at hx, List.all_cons, Bool.and_assoc])
      simp only at hc0 hc1
      clear hx hb hr
      have HE := Lib.hid (show ∀ o, Below w.heap.size w (wr.alloc o) from fun o => HB.out.alloc HB.out.size o)
      cases hp : inB p 0 4
      · have HG := Lib.hid (show false = q by rw [← HS.out]; simp [okC, hp])
        go_wp2_with (first | (go_at_call 24; refine (within_b _ _ _ _ (by assumption) _).mono ?_; rintro e w' ⟨rfl, rfl⟩))
        go_ret
        exact ⟨by rw [← HG.out]; rfl, HE.out _⟩
      cases hv : inB v 0 399
      · have HG := Lib.hid (show false = q by rw [← HS.out]; simp [okC, hv])
        go_wp2_with (first | (go_at_call 24; refine (within_b _ _ _ _ (by assumption) _).mono ?_; rintro e w' ⟨rfl, rfl⟩))
        go_ret
        exact ⟨by rw [← HG.out]; rfl, HE.out _⟩
      by_cases h4 : p = 4
      · subst h4
        have HG := Lib.hid (show ((c.drop (k + 1)).all okC && decide (endP manyC c 1 = some c.length)) = q by rw [← HS.out]; simp [okC, hp, hv])
        go_wp2_with (first | (go_at_call 24; refine (within_b _ _ _ _ (by assumption) _).mono ?_; rintro e w' ⟨rfl, rfl⟩))
        go_roundw
        case rel => exact ⟨k + 1, by omega, by go_num, HG.out, HE.out _⟩
        case measure => simp [intOf]; omega
      have g4 : (p != 4) = true := by simpa using h4
      by_cases hv0 : v = 0
      · subst hv0
        have HG := Lib.hid (show ((c.drop (k + 1)).all okC && decide (endP manyC c 1 = some c.length)) = q by rw [← HS.out]; simp [okC, hp, hv])
        go_wp2_with (first | (go_at_call 24; refine (within_b _ _ _ _ (by assumption) _).mono ?_; rintro e w' ⟨rfl, rfl⟩))
        go_roundw
        case rel => exact ⟨k + 1, by omega, by go_num, HG.out, HE.out _⟩
        case measure => simp [intOf]; omega
      · have gv : (v != 0) = true := by simpa using hv0
        have HG := Lib.hid (show false = q by rw [← HS.out]; simp [okC, h4, hv0])
        go_wp2_with (first | (go_at_call 24; refine (within_b _ _ _ _ (by assumption) _).mono ?_; rintro e w' ⟨rfl, rfl⟩))
        go_ret
        exact ⟨by rw [← HG.out]; rfl, HE.out _⟩
    · have HG := Lib.hid (show decide (endP manyC c 1 = some c.length) = q by rw [← hr.out, List.drop_eq_nil_of_le (by rw [HL.out]; omega)]; rfl)
      clear hr hb
      obtain ⟨z, hz⟩ : ∃ z, resE manyC c 0 1 = z := ⟨_, rfl⟩
      have HZ := Lib.hid hz
      have HD := Lib.hid (show (z == (n : Int)) = q by
        rw [← HG.out, ← hz, resE, List.drop_zero, HL.out]
        cases endP manyC c 1 with
        | none =>
          show ((-1 : Int) == (n : Int)) = decide (none = some n)
          rw [show ((-1 : Int) == (n : Int)) = false by simp]; rfl
        | some p =>
          show (((0 + p : Nat) : Int) == (n : Int)) = decide (some p = some n)
          rw [Nat.zero_add]
          by_cases h : p = n
          · subst h; simp
          · rw [show ((p : Int) == (n : Int)) = false by simp; omega]; simp [h])
      have R := Lib.hid (H.out.below HB.out)
      clear hz
      go_wp2_with (go_at_call 69; refine (combEnd_c _ _ _ c 0 z _ R.out hn (by omega) HZ.out).mono ?_; rintro e w2 ⟨rfl, hb2⟩)
      go_ret
      exact ⟨by rw [← HD.out]; rfl, below_chain HB.out HB.out.size hb2⟩
/-- a form with so many arguments does not begin there -/
theorem argumentsNo_c (A : Option Addr) (n cp : Nat) (c : List (Int × Int)) (k : Nat) (kind M : Int) (many : Nat) (w : World) (h : Rd2 w A n c) (hn : n ≤ 1000000000) (hk : k ≤ n) (hf : tryF (c.drop k) kind many = false) (hM : M = (many : Int)) (hm : many ≤ 3) :
    Calls Tryz.prog 210 #[.slice A n cp, .int .i64 k, .int .i64 kind, .int .i64 M] w fun e w' => e = .returned (.tuple #[.slice none 0 0, .int .i64 (-1)]) ∧ w = w' := by
  subst hM
  have HL := Lib.hid h.len
  have H := Lib.hid h; have HF := Lib.hid hf; clear h hf
  go_enter Tryz.func210, Tryz.ntmps210
  go_wp2_with fail
  go_loop [15] (fun iv => ∃ i : Nat, i ≤ many ∧ k + i ≤ n ∧ iv = .int .i64 i ∧ Hid (tryF (c.drop (k + i)) kind (many - i) = false)) (fun iv => many - (intOf iv).toNat)
  case atStart => exact ⟨0, by omega, by omega, rfl, HF.out⟩
  case round =>
    obtain ⟨i, hi, hki, rfl, hr⟩ := hrel
    by_cases hlt : i < many
    · by_cases hn0 : k + i < n
      · obtain ⟨ad, x, rfl, hab, hx, hc0, hc1⟩ := H.out.at_ hn0
        obtain ⟨p, v⟩ := x
        have HS := Lib.hid (show ((p == 0) && tryF (c.drop (k + (i + 1))) kind (many - (i + 1))) = false by rw [← hr.out, drop_at hx, show many - i = many - (i + 1) + 1 by omega]; rfl)
        simp only at hc0 hc1
        clear hx hr
        by_cases h0 : p = 0
        · subst h0
          have HG := Lib.hid (show tryF (c.drop (k + (i + 1))) kind (many - (i + 1)) = false from HS.out)
          go_wp2_with fail
          go_round
          case rel => exact ⟨i + 1, by omega, by omega, by go_num, HG.out⟩
          case measure => simp [intOf]; omega
        · have g0 : (p != 0) = true := by simpa using h0
          go_wp2_with fail
          go_ret2
          exact ⟨rfl, rfl⟩
      · go_wp2_with fail
        go_ret2
        exact ⟨rfl, rfl⟩
    · obtain rfl : i = many := by omega
      have HG := Lib.hid (show tryF (c.drop (k + i)) kind 0 = false by rw [← hr.out, Nat.sub_self])
      clear hr
      by_cases hn0 : k + i < n
      · obtain ⟨ad, x, rfl, hab, hx, hc0, hc1⟩ := H.out.at_ hn0
        obtain ⟨p, v⟩ := x
        have gp : (p != kind) = true := by
          have := HG.out
          rw [drop_at hx] at this
          simpa [tryF] using this
        simp only at hc0 hc1
        go_wp2_with fail
        go_ret2
        exact ⟨rfl, rfl⟩
      · go_wp2_with fail
        go_ret2
        exact ⟨rfl, rfl⟩
end Go.Proofs.YtebjpmmgdkepjaaGreatDoor
