/-
  slices.Grow of nil and slices.Concat: lists one after the other.
-/
import Derived.Test.YtmmgejnhfpfmnaaC01
import Derived.Test.YtmmgejnhfpfmnaaApp
import Derived.Lib.AppendZerosOnto
import Derived.Lib.AppendZeros
namespace Go.Proofs.Ytmmgejnhfpfmnaa
open Go.RowKit

/-- a slice with its cells -/
structure ItV where
  A : Option Addr
  n : Nat
  c : Nat
  vs : List Value
def hdV (t : ItV) : Value := .slice t.A t.n t.c
def sumV : List ItV → Nat
  | [] => 0
  | t :: l => t.n + sumV l
theorem sumV_app : ∀ a b : List ItV, sumV (a ++ b) = sumV a + sumV b
  | [], b => by simp [sumV]
  | t :: a, b => by simp only [List.cons_append, sumV, sumV_app a b]; omega
theorem sumV_take {its : List ItV} {k : Nat} {t : ItV} (h : its[k]? = some t) : sumV (its.take (k + 1)) = sumV (its.take k) + t.n := by rw [take_at h, sumV_app]; simp [sumV]
theorem sumV_le {its : List ItV} {k : Nat} : sumV (its.take k) ≤ sumV its := by
  have := sumV_app (its.take k) (its.drop k)
  rw [List.take_append_drop] at this; omega
/-- the slices of a list, each with k cells an element -/
structure RdV (w : World) (k : Nat) (A : Option Addr) (m : Nat) (its : List ItV) : Prop where
  head : Rd w A m (its.map hdV)
  each : ∀ t ∈ its, Rd w t.A (t.n * k) t.vs
  one : ∀ t ∈ its, ∀ u ∈ t.vs, u.oneCell' = true
theorem RdV.below {w w' : World} {k : Nat} {A : Option Addr} {m : Nat} {its : List ItV} (h : RdV w k A m its) (hb : Below w.heap.size w w') : RdV w' k A m its := ⟨h.head.below hb, fun t ht => (h.each t ht).below hb, h.one⟩
theorem RdV.len {w : World} {k : Nat} {A : Option Addr} {m : Nat} {its : List ItV} (h : RdV w k A m its) : its.length = m := by have := h.head.1; simpa using this
theorem RdV.at_ {w : World} {k : Nat} {A : Option Addr} {m : Nat} {its : List ItV} (h : RdV w k A m its) {j : Nat} (hj : j < m) : ∃ ad t, A = some ad ∧ its[j]? = some t ∧ w.cell? (ad.add j) = some (.slice t.A t.n t.c) ∧ Rd w t.A (t.n * k) t.vs ∧ ∀ u ∈ t.vs, u.oneCell' = true := by
  have hl := h.len
  have ht : its[j]? = some its[j] := List.getElem?_eq_getElem (by omega)
  obtain ⟨ad, v, e, hb, hv, hc⟩ := h.head.at_ hj
  rw [List.getElem?_map, ht] at hv
  injection hv with hv; subst hv
  exact ⟨ad, _, e, ht, hc, h.each _ (List.getElem_mem (by omega)), h.one _ (List.getElem_mem (by omega))⟩
/-- a slice of the call's own with given cells -/
def CatOut (k N : Nat) (vs : List Value) (w : World) (e : Ending) (w' : World) : Prop := ∃ A c, e = .returned (.slice A N c) ∧ Wr w' w.heap.size w'.heap.size A (N * k) vs ∧ N ≤ c ∧ Below w.heap.size w w'
theorem info_catI : (Try.prog.info? 2).map (fun i => (i.zero, i.size, i.bytes)) = some (some (.int .i64 0), 1, 8) := by kernel_rfl
set_option maxHeartbeats 1000000 in
set_option maxRecDepth 100000 in
theorem growNilI_c (n : Nat) (w : World) (hn : n ≤ 100000000) : Calls Try.prog 132 #[.slice none 0 0, .int .i64 n] w fun e w' => ∃ A c, e = .returned (.slice A 0 c) ∧ Own w' w.heap.size 2 1 A 0 c [] ∧ Below w.heap.size w w' := by
  by_cases h0 : n = 0
  · subst h0
    go_enter Try.func132, Try.ntmps132
    go_wp2_with fail
    go_ret
    exact ⟨none, 0, rfl, Own.nil, below_size⟩
  · obtain ⟨i, hi0, hi1⟩ := Option.map_eq_some_iff.1 info_catI
    simp only [Prod.mk.injEq] at hi1
    obtain ⟨e1, e2, e3⟩ := hi1
    obtain ⟨G, hG⟩ : ∃ G, G = grownCap w (0 + n) 0 2 := ⟨_, rfl⟩
    have hrz : ∀ ty, (Builtin.append_ #[25, 3] ty #[.slice none 0 0, .int .i64 (n : Int)]).run Try.prog w = .ok (.slice (some ⟨w.heap.size, 0, none⟩) n G) (w.drew.alloc (.cells (Builtin.zeroCells (.int .i64 0 : Value).cells n ++ Builtin.zeroCells (.int .i64 0 : Value).cells (G - n)) 2)) := fun ty => by
      have h := Lib.run_append_grow_zeros (P := Try.prog) w 25 3 ty 2 i (.int .i64 0) .i64 .i64 Try.underlying25 Try.underlying3 hi0 e1 none 0 0 [] (run_firstCells_none w.drew i.size 0 0 0) n (by omega) (by rw [e2]; omega) (by omega) (by omega) (by rw [e3]; omega) (by rw [e3]; exact growslice_fits (by omega) (by omega))
      rw [← hG, Nat.zero_add] at h
      simpa using h
    have hGn : 0 + n ≤ G := by rw [hG]; exact grownCap_ge w _ _ _
    have hG63 : G ≤ maxLen := by rw [hG]; exact grownCap_le_maxLen w _ _ _ (by unfold maxLen; omega)
    have HG := Lib.hid hG63
    have hgm : G ≤ 9223372036854775807 := by have := hG63; unfold maxLen at this; omega
    clear hG e1 e2 e3 hG63
    go_enter Try.func132, Try.ntmps132
    go_wp2_with (at_builtin; refine Lib.wpList_append_run _ rfl _ _ _ _ rfl _ _ rfl rfl _ _ (hrz _) ?_)
    go_ret
    refine ⟨some ⟨w.heap.size, 0, none⟩, G, rfl, ?_, below_drew below_size |>.alloc (Nat.le_refl _) _⟩
    refine ⟨by simp, .inr ⟨w.heap.size, G, _, rfl, Nat.le_refl _, heap_alloc_new w.drew _, by omega, HG.out, ?_, by simp⟩⟩
    rw [← Array.length_toList]; simp [Builtin.zeroCells]; omega
set_option maxHeartbeats 2000000 in
set_option maxRecDepth 100000 in
theorem concatI_c (A : Option Addr) (m c : Nat) (its : List ItV) (w : World) (h : RdV w 1 A m its) (hm : m ≤ 1000000) (hs : sumV its ≤ 100000000) :
    Calls Try.prog 91 #[.slice A m c] w (CatOut 1 (sumV its) (its.flatMap ItV.vs) w) := by
  have HL := Lib.hid h.len
  have H := Lib.hid h; clear h
  obtain ⟨N, hN⟩ : ∃ N, sumV its = N := ⟨_, rfl⟩
  rw [hN]
  have HN := Lib.hid hN
  have hNs : N ≤ 100000000 := by omega
  clear hN hs
  go_enter Try.func91, Try.ntmps91
  go_wp2_with fail
  go_loop [3, 11] (fun sv iv => ∃ j q : Nat, j ≤ m ∧ iv = .int .i64 j ∧ sv = .int .i64 q ∧ q ≤ N ∧ Hid (q = sumV (its.take j))) (fun _ iv => m - (intOf iv).toNat)
  case atStart => exact ⟨0, 0, by omega, rfl, rfl, by omega, by simp [Hid, sumV]⟩
  case round =>
    obtain ⟨j, q, hj, rfl, rfl, hq, hr⟩ := hrel
    by_cases hlt : j < m
    · obtain ⟨ad, t, rfl, ht, hc, _, _⟩ := H.out.at_ hlt
      have HS := Lib.hid (sumV_take ht)
      have HT := Lib.hid (sumV_le (its := its) (k := j + 1))
      have hqt : q + t.n ≤ N := by have h1 := hr.out; have h2 := HS.out; have h3 := HT.out; have h4 := HN.out; omega
      have HR := Lib.hid (show q + t.n = sumV (its.take (j + 1)) by have h1 := hr.out; have h2 := HS.out; omega)
      clear ht hr
      go_wp2_with fail
      go_round
      case rel => exact ⟨j + 1, q + t.n, by omega, by go_num, by go_num, hqt, HR.out⟩
      case measure => simp [intOf]; omega
    · have HQ := Lib.hid (show q = N by rw [hr.out, ← HN.out, List.take_of_length_le (by rw [HL.out]; omega)])
      clear hr
      go_wp2_with fail
      refine (growNilI_c q _ (by omega)).mono ?_
      rintro e w1 ⟨O, oc, rfl, hO, hb⟩
      have O1 := Lib.hid hO; have B1 := Lib.hid hb
      have hz1 := hb.size
      clear hO hb
      go_wp2_with fail
      go_loopw [6, 27] (fun sv iv wr => ∃ (j p : Nat) (O : Option Addr) (oc : Nat), j ≤ m ∧ iv = .int .i64 j ∧ sv = .slice O p oc ∧ p ≤ N ∧ Hid (p = sumV (its.take j)) ∧ Hid (Own wr w.heap.size 2 1 O p oc ((its.take j).flatMap ItV.vs)) ∧ Below w.heap.size w wr) (fun _ iv _ => m - (intOf iv).toNat)
      case atStart => exact ⟨0, 0, O, oc, by omega, rfl, rfl, by omega, by simp [Hid, sumV], by unfold Hid; simpa using O1.out, B1.out⟩
      case round =>
        obtain ⟨j, p, O, oc, hj, rfl, rfl, hp, hr, hO, hb⟩ := hrel
        have HB := Lib.hid hb
        have hwz := hb.size
        by_cases hlt : j < m
        · obtain ⟨ad, t, rfl, ht, hc, hrd, hone⟩ := (H.out.below hb).at_ hlt
          have HS := Lib.hid (sumV_take ht)
          have HT := Lib.hid (sumV_le (its := its) (k := j + 1))
          have hqt : p + t.n ≤ N := by have h1 := hr.out; have h2 := HS.out; have h3 := HT.out; have h4 := HN.out; omega
          have HR := Lib.hid (show p + t.n = sumV (its.take (j + 1)) by have h1 := hr.out; have h2 := HS.out; omega)
          have HF := Lib.hid (show (its.take (j + 1)).flatMap ItV.vs = (its.take j).flatMap ItV.vs ++ t.vs by rw [take_at ht]; simp)
          have ONE := Lib.hid hone; have RD := Lib.hid hrd
          have hcap := hO.out.cap
          clear ht hr hb hrd hone
          by_cases h0 : t.n = 0
          · have HV := Lib.hid (show t.vs = [] from List.length_eq_zero_iff.1 (by have := RD.out.1; rw [h0] at this; omega))
            obtain ⟨tA, tn, tc, tv⟩ := t
            simp only at h0 hc HS hqt HR HF HV
            subst h0
            go_wp2_with (at_builtin; refine wp_app0 (by rfl) _ _ 25 2 (.int .i64 0) 1 8 (by rfl) Try.underlying25 info_catI O p oc (by rfl) hcap tA tc (by rfl) ?_)
            go_roundw
            case rel => exact ⟨j + 1, p, O, oc, by omega, by go_num, rfl, hp, HR.out, by unfold Hid; rw [HF.out, HV.out, List.append_nil]; exact hO.out, HB.out⟩
            case measure => simp [intOf]; omega
          · obtain ⟨ta, hta, htb, htc⟩ := RD.out.2 (by omega)
            have HTC := Lib.hid htc; have HTL := Lib.hid RD.out.1
            obtain ⟨tA, tn, tc, tv⟩ := t
            simp only at h0 hc HS hqt HR HF hta htb HTC HTL ONE
            subst hta
            clear htc RD
            go_wp2_with (at_builtin; refine wp_app (by rfl) _ _ 25 2 (.int .i64 0) 1 8 (by rfl) Try.underlying25 info_catI rfl (by omega) w.heap.size O p oc ((its.take j).flatMap ItV.vs) (by rfl) (by exact hO.out) ta tn tc tv (by rfl) (by omega) HTL.out (by exact HTC.out) ONE.out (by omega) (by omega) hwz ?_; intro g' cap w3 own3 hb3 hk3 hg3 hz3)
            have O3 := Lib.hid own3
            have B3 := Lib.hid (HB.out.trans hb3)
            clear own3 hb3 hk3 hg3 hz3
            go_wp2_with fail
            go_roundw
            case rel => exact ⟨j + 1, p + tn, some ⟨g', 0, none⟩, cap, by omega, by go_num, rfl, hqt, HR.out, by unfold Hid; rw [HF.out]; exact O3.out, B3.out⟩
            case measure => simp [intOf]; omega
        · have e1 := Lib.hid (show its.take j = its from List.take_of_length_le (by rw [HL.out]; omega))
          have HP := Lib.hid (show p = N by rw [hr.out, e1.out, HN.out])
          clear hb hr
          go_wp2_with fail
          go_ret
          have h1 := hO.out
          rw [e1.out] at h1
          have hp2 := HP.out
          subst hp2
          exact ⟨O, oc, rfl, h1.wrK, h1.cap, HB.out⟩
end Go.Proofs.Ytmmgejnhfpfmnaa
