/-
  Contracts of chapter 12: the reference's step of a combinator term.
-/
import Derived.Test.YtfgnhdmiglobhaaC12b
namespace Go.Proofs.Ytfgnhdmiglobhaa
open Go.RowKit

/-- the slice of an argument -/
def argV (ad : Addr) (cp : Nat) (c : List (Int × Int)) (a i : Nat) : Value := .slice (some (ad.add (endI c a i * 2))) (endI c a (i + 1) - endI c a i) (cp - endI c a i)
def argVs (ad : Addr) (cp : Nat) (c : List (Int × Int)) (a i : Nat) : List Value := (List.range i).map (argV ad cp c a)
theorem argVs_succ (ad : Addr) (cp : Nat) (c : List (Int × Int)) (a i : Nat) : argVs ad cp c a (i + 1) = argVs ad cp c a i ++ [argV ad cp c a i] := by simp [argVs, List.range_succ]
theorem argVs_at {ad : Addr} {cp : Nat} {c : List (Int × Int)} {a i j : Nat} (h : j < i) : (argVs ad cp c a i)[j]? = some (argV ad cp c a j) := by simp [argVs, h]
theorem info_sComb : (Try.prog.info? 24).map (fun i => (i.zero, i.size, i.bytes)) = some (some (.slice none 0 0), 1, 24) := by kernel_rfl
theorem addrZ (a : Addr) : a.add 0 = a := by simp [Addr.add]
theorem addr1 (a : Addr) : a.add 1 = ⟨a.block, a.off + 1, none⟩ := by rw [Addr.add, if_neg (by omega)]
theorem addr2 (a : Addr) : a.add 2 = ⟨a.block, a.off + 2, none⟩ := by rw [Addr.add, if_neg (by omega)]
theorem rd_new2 {w : World} {t : TypeId} {m : Nat} (xs : List (Int × Int)) (cs : Array Value) (h : cs.toList = xs.flatMap enc2) (hm : xs.length = m) : Rd2 (w.alloc (.cells cs t)) (some ⟨w.heap.size, 0, none⟩) m xs := by
  have hs : cs.size = m * 2 := by rw [← Array.length_toList, h, flatX_len enc2 2 enc2_len, hm]
  exact (Blk.new w t cs).rd (by rw [h]; exact List.take_of_length_le (by rw [← h, Array.length_toList, hs]; exact Nat.le_refl _)) (by omega)
/-- a term of the call's own, and a Bool -/
def StepOut (S : List (Int × Int)) (q : Bool) (w : World) (e : Ending) (w' : World) : Prop := ∃ A N cap, e = .returned (.tuple #[.slice A N cap, .bool q]) ∧ Wr w' w.heap.size w'.heap.size A (N * 2) (S.flatMap enc2) ∧ S.length = N ∧ N ≤ cap ∧ Below w.heap.size w w'
theorem Own.pairs {w : World} {B n cap : Nat} {e : TypeId} {A : Option Addr} {S : List (Int × Int)} (h : Own w B e 2 A n cap (S.flatMap enc2)) : Rd2 w A n S := h.wrK.rd
set_option maxHeartbeats 4000000 in
set_option maxRecDepth 100000 in
theorem l12CombStep_c (A : Option Addr) (n cp : Nat) (c : List (Int × Int)) (k : Nat) (S : List (Int × Int)) (q : Bool) (w : World) (h : Rd2 w A n c) (hn : n ≤ 400) (hnc : n ≤ cp) (hv : endP manyC c 1 = some c.length) (hk : k < n) (hf : 0 < formC (c.drop k)) (hS : stepC c k = S) (hq : validC S = q) :
    Calls Try.prog 57 #[.slice A n cp, .int .i64 k] w (StepOut S q w) := by
  have hl := h.len
  have HL := Lib.hid hl
  obtain ⟨m, hm⟩ : ∃ m, formC (c.drop k) = m := ⟨_, rfl⟩
  obtain ⟨a, ha⟩ : ∃ a, k + m + 1 = a := ⟨_, rfl⟩
  have hm1 : 1 ≤ m ∧ m ≤ 3 := by have := formC_lead hf; omega
  obtain ⟨z, hz, hzn⟩ : ∃ z, endI c a m = z ∧ z ≤ n := by
    obtain ⟨h1, r, h2, h3⟩ := form_args hv (by rw [hl]; exact hk)
    rw [← (formC_lead hf).1, hm, ha] at h2 h3
    exact ⟨a + r, endI_all h2, by omega⟩
  have HE := Lib.hid (show ∀ i, i < m → ∃ p, endP manyC (c.drop (endI c a i)) 1 = some p ∧ endI c a i + p = endI c a (i + 1) ∧ 1 ≤ p by
    obtain ⟨h1, r, h2, h3⟩ := form_args hv (by rw [hl]; exact hk)
    rw [← (formC_lead hf).1, hm, ha] at h2
    exact fun i hi => endI_ok h2 hi)
  have HZ := Lib.hid (show ∀ i, i ≤ m → endI c a i ≤ z from fun i hi => by rw [← hz]; exact endI_mono hi)
  have HM := Lib.hid hm; have HA := Lib.hid ha
  have HS := Lib.hid (show c.take k ++ byC c k m ++ c.drop z = S by rw [← hS, stepC, hm, ha, hz])
  have HQ := Lib.hid hq
  have HZE := Lib.hid hz
  have HV := Lib.hid hv
  obtain ⟨ad, rfl, hab, _⟩ := h.2 (by omega)
  have H := Lib.hid h
  clear h hl hm ha hS hq hz hv hf
  go_enter Try.func57, Try.ntmps57
  go_wp2_with (go_at_call 84; refine (l12Form_c _ _ _ c k m _ H.out (by omega) HV.out hk HM.out).mono ?_; rintro e w' ⟨rfl, rfl⟩)
  go_loopw [7, 8, 9] (fun av ev iv wr => ∃ (i : Nat) (B : Option Addr) (cc : Nat), i ≤ m ∧ iv = .int .i64 i ∧ ev = .int .i64 (endI c a i) ∧ av = .slice B i cc ∧ Hid (Own wr w.heap.size 24 1 B i cc (argVs ad cp c a i)) ∧ Below w.heap.size w wr) (fun _ _ iv _ => m - (intOf iv).toNat)
  case atStart => exact ⟨0, some ⟨w.heap.size, 0, none⟩, 0, by omega, rfl, by rw [show endI c a 0 = k + m + 1 from HA.out.symm]; go_num, rfl, Own.lit (Nat.le_refl _), below_size.alloc (Nat.le_refl _) _⟩
  case round =>
    obtain ⟨i, B, cc, hi, rfl, rfl, rfl, hO, hb⟩ := hrel
    have EB := Lib.hid hb
    have hwz := hb.size
    by_cases hlt : i < m
    · obtain ⟨p, hp, he, hp1⟩ := HE.out i hlt
      have hz1 := HZ.out (i + 1) (by omega)
      have HP := Lib.hid hp
      obtain ⟨e0, he0⟩ : ∃ e0, endI c a i = e0 := ⟨_, rfl⟩
      obtain ⟨e1, he1⟩ : ∃ e1, endI c a (i + 1) = e1 := ⟨_, rfl⟩
      have HN := Lib.hid (show argV ad cp c a i = .slice (some (ad.add (e0 * 2))) (e1 - e0) (cp - e0) by rw [argV, he0, he1])
      rw [he0] at HP he
      rw [he1] at he hz1
      have HE0 := Lib.hid he0; have HE1 := Lib.hid he1
      have R := Lib.hid (H.out.below EB.out)
      have HEE := Lib.hid he
      rw [he0]
      clear hp he0 he1
      go_wp2_with (first | (go_at_call 85; refine (l12CombEnd_c _ _ _ c e0 p e1 _ R.out (by omega) HP.out HEE.out).mono ?_; rintro e w' ⟨rfl, rfl⟩) | (at_builtin; refine wp_app1 (by rfl) _ _ 60 24 (.slice none 0 0) 24 (by rfl) Try.underlying60 info_sComb rfl w.heap.size B i cc (argVs ad cp c a i) (by rfl) (by exact hO.out.alloc _) wr.heap.size (argV ad cp c a i) (by rfl) (by rw [HN.out]; exact new_cell _ _ _ 0) (by rw [HN.out]; rfl) (by omega) (by omega) (by simp; omega) ?_; intro g' cap w3 own3 hb3 hk3 hg3 hz3))
      have O3 := Lib.hid own3; have E3 := Lib.hid ((EB.out.alloc hwz _).trans hb3)
      clear own3 hb3 hk3 hg3 hz3
      go_wp2_with fail
      go_roundw
      case rel => exact ⟨i + 1, some ⟨g', 0, none⟩, cap, by omega, by go_num, by rw [HE1.out], rfl, by unfold Hid; rw [argVs_succ]; exact O3.out, E3.out⟩
      case measure => simp [intOf]; omega
    · obtain rfl : i = m := by omega
      obtain ⟨wo, rfl⟩ : ∃ wo : World, wo = wr := ⟨_, rfl⟩
      have W := Lib.hid hO.out.wr
      have EB := Lib.hid hb
      have HB0 := hb.size
      obtain ⟨ga, v0, rfl, _, hB0, _, hv0, a0, _⟩ := W.out.at_ (k := 0) (by omega)
      rw [argVs_at (by omega)] at hv0
      injection hv0 with hv0; subst hv0
      rw [addrZ] at a0
      have hX : ∀ j, j < i → ∃ P l d, argV ad cp c a j = .slice (some P) l d ∧ l ≤ n ∧ ∀ w', Below w.heap.size w w' → Rd2 w' (some P) l (argI c a j) := fun j hj => by
        obtain ⟨p, _, h1, _⟩ := HE.out j hj
        have h2 := HZ.out (j + 1) (by omega)
        exact ⟨_, _, _, rfl, by omega, fun w' hb => (H.out.below hb).part _ _ (by omega)⟩
      obtain ⟨P0, l0, d0, hv0, hl0, hx0⟩ := hX 0 (by omega)
      have X0 := Lib.hid hx0
      rw [hv0] at a0
      have XK := Lib.hid (show ∀ w', Below w.heap.size w w' → Rd2 w' (some ad) k (c.take k) from fun w' hb => (H.out.below hb).upto k (by omega))
      rw [HZE.out]
      have hzk : k ≤ 400 := by omega
      have HX := Lib.hid hX
      have WW := Lib.hid (show ∀ j, j < i → wo.cell? (ga.add j) = some (argV ad cp c a j) from fun j hj => by
        obtain ⟨gb, v, e, _, _, _, hv, h1, _⟩ := W.out.at_ hj
        injection e with e; subst e
        rw [argVs_at hj] at hv; injection hv with hv; subst hv; exact h1)
      clear hb hv0 hx0 hX
      by_cases hzc : z < cp
      · have XZ := Lib.hid (show ∀ w', Below w.heap.size w w' → Rd2 w' (some (ad.add (z * 2))) (n - z) (c.drop z) from fun w' hb => by
          have := (H.out.below hb).part z (n - z) (by omega)
          rw [List.take_of_length_le (by rw [List.length_drop, HL.out]; exact Nat.le_refl _)] at this; exact this)
        by_cases h3 : i < 3
        · have HSS := Lib.hid (show c.take k ++ argI c a 0 ++ c.drop z = S by rw [← HS.out, byC, if_pos h3, HA.out])
          clear HE HZ HS
          go_wp2_with (first
            | (at_builtin; refine wp_appComb (by rfl) _ _ (by rfl) wo.heap.size _ _ _ _ (by rfl) (by exact Own.litK (Nat.le_refl _)) _ _ _ (c.take k) (by rfl) (by exact XK.out _ (EB.out.alloc (by omega) _)) (by omega) (by first | omega | (simp <;> omega)) ?_; intro A1 c1 w1 own hb hk hg hz; (try rw [Nat.zero_add] at own); (try rw [Nat.add_zero] at own); (try rw [List.nil_append] at own); have O1 := Lib.hid own; have F1 := Lib.hid ((below_size.alloc (Nat.le_refl _) _).trans hb); have E1 := Lib.hid (below_chain EB.out HB0 F1.out); have hz1 := F1.out.size; have x0 := keepB F1.out hB0 a0; clear own hb hk hg hz)
            | (at_builtin; refine wp_appComb (by rfl) _ _ (by rfl) wo.heap.size _ _ _ _ (by rfl) (by exact O1.out) _ _ _ (argI c a 0) (by rfl) (by exact X0.out _ E1.out) (by omega) (by first | omega | (simp <;> omega)) ?_; intro A2 c2 w2 own hb hk hg hz; (try rw [Nat.zero_add] at own); (try rw [Nat.add_zero] at own); (try rw [List.nil_append] at own); have O2 := Lib.hid own; have F2 := Lib.hid ((F1.out).trans hb); have E2 := Lib.hid (below_chain EB.out HB0 F2.out); have hz2 := F2.out.size; skip; clear own hb hk hg hz)
            | (at_builtin; refine wp_appComb (by rfl) _ _ (by rfl) wo.heap.size _ _ _ _ (by rfl) (by exact O2.out) _ _ _ (c.drop z) (by rfl) (by exact XZ.out _ E2.out) (by omega) (by first | omega | (simp <;> omega)) ?_; intro A3 c3 w3 own hb hk hg hz; (try rw [Nat.zero_add] at own); (try rw [Nat.add_zero] at own); (try rw [List.nil_append] at own); have O3 := Lib.hid own; have F3 := Lib.hid ((F2.out).trans hb); have E3 := Lib.hid (below_chain EB.out HB0 F3.out); have hz3 := F3.out.size; skip; clear own hb hk hg hz))
          have HO := Lib.hid (show Own w3 wo.heap.size 50 2 A3 _ c3 (S.flatMap enc2) by rw [← HSS.out]; simpa [List.flatMap_append, List.append_assoc, enc2] using O3.out)
          have hcap := HO.out.cap
          have HR2 := Lib.hid HO.out.pairs
          have hsl := HR2.out.len
          have EE := Lib.hid E3.out
          go_wp2_with (go_at_call 25; refine (l12Comb_c _ _ _ S q _ HR2.out (by omega) HQ.out).mono ?_; rintro e w' ⟨rfl, hb⟩)
          go_ret2
          exact ⟨_, _, _, rfl, (HO.out.wrK.wider HB0 (Nat.le_refl _)).below hb |>.wider (Nat.le_refl _) hb.size, hsl, hcap, below_chain EE.out EE.out.size hb⟩
        · obtain rfl : i = 3 := by omega
          have HSS := Lib.hid (show c.take k ++ ([(0, 0), (0, 0)] ++ argI c a 0 ++ argI c a 2 ++ [(0, 0)] ++ argI c a 1 ++ argI c a 2) ++ c.drop z = S by rw [← HS.out, byC, if_neg h3, HA.out])
          obtain ⟨P1, l1, d1, hv1, hl1, hx1⟩ := HX.out 1 (by omega)
          obtain ⟨P2, l2, d2, hv2, hl2, hx2⟩ := HX.out 2 (by omega)
          have X1 := Lib.hid hx1; have X2 := Lib.hid hx2
          have a1 : wo.cell? ⟨ga.block, ga.off + 1, none⟩ = some (.slice (some P1) l1 d1) := by rw [← addr1, ← hv1]; exact WW.out 1 (by omega)
          have a2 : wo.cell? ⟨ga.block, ga.off + 2, none⟩ = some (.slice (some P2) l2 d2) := by rw [← addr2, ← hv2]; exact WW.out 2 (by omega)
          clear HE HZ HS hv1 hv2 hx1 hx2
          go_wp2_with (first
            | (at_builtin; refine wp_appComb (by rfl) _ _ (by rfl) wo.heap.size _ _ _ _ (by rfl) (by exact Own.litK (Nat.le_refl _)) _ _ _ (c.take k) (by rfl) (by exact XK.out _ (EB.out.alloc (by omega) _)) (by omega) (by first | omega | (simp <;> omega)) ?_; intro A1 c1 w1 own hb hk hg hz; (try rw [Nat.zero_add] at own); (try rw [Nat.add_zero] at own); (try rw [List.nil_append] at own); have O1 := Lib.hid own; have F1 := Lib.hid ((below_size.alloc (Nat.le_refl _) _).trans hb); have E1 := Lib.hid (below_chain EB.out HB0 F1.out); have hz1 := F1.out.size; skip; clear own hb hk hg hz)
            | (at_builtin; refine wp_appComb (by rfl) _ _ (by rfl) wo.heap.size _ _ _ _ (by rfl) (by exact O1.out.alloc _) _ _ _ ([(0, 0), (0, 0)]) (by rfl) (by exact rd_new2 [(0, 0), (0, 0)] _ rfl rfl) (by omega) (by first | omega | (simp <;> omega)) ?_; intro A2 c2 w2 own hb hk hg hz; (try rw [Nat.zero_add] at own); (try rw [Nat.add_zero] at own); (try rw [List.nil_append] at own); have O2 := Lib.hid own; have F2 := Lib.hid ((F1.out.alloc (by omega) _).trans hb); have E2 := Lib.hid (below_chain EB.out HB0 F2.out); have hz2 := F2.out.size; have x0 := keepB F2.out hB0 a0; clear own hb hk hg hz)
            | (at_builtin; refine wp_appComb (by rfl) _ _ (by rfl) wo.heap.size _ _ _ _ (by rfl) (by exact O2.out) _ _ _ (argI c a 0) (by rfl) (by exact X0.out _ E2.out) (by omega) (by first | omega | (simp <;> omega)) ?_; intro A3 c3 w3 own hb hk hg hz; (try rw [Nat.zero_add] at own); (try rw [Nat.add_zero] at own); (try rw [List.nil_append] at own); have O3 := Lib.hid own; have F3 := Lib.hid ((F2.out).trans hb); have E3 := Lib.hid (below_chain EB.out HB0 F3.out); have hz3 := F3.out.size; have x2 := keepB (p := ⟨ga.block, ga.off + 2, none⟩) F3.out hB0 a2; clear own hb hk hg hz)
            | (at_builtin; refine wp_appComb (by rfl) _ _ (by rfl) wo.heap.size _ _ _ _ (by rfl) (by exact O3.out) _ _ _ (argI c a 2) (by rfl) (by exact X2.out _ E3.out) (by omega) (by first | omega | (simp <;> omega)) ?_; intro A4 c4 w4 own hb hk hg hz; (try rw [Nat.zero_add] at own); (try rw [Nat.add_zero] at own); (try rw [List.nil_append] at own); have O4 := Lib.hid own; have F4 := Lib.hid ((F3.out).trans hb); have E4 := Lib.hid (below_chain EB.out HB0 F4.out); have hz4 := F4.out.size; skip; clear own hb hk hg hz)
            | (at_builtin; refine wp_appComb (by rfl) _ _ (by rfl) wo.heap.size _ _ _ _ (by rfl) (by exact O4.out.alloc _) _ _ _ ([(0, 0)]) (by rfl) (by exact rd_new2 [(0, 0)] _ rfl rfl) (by omega) (by first | omega | (simp <;> omega)) ?_; intro A5 c5 w5 own hb hk hg hz; (try rw [Nat.zero_add] at own); (try rw [Nat.add_zero] at own); (try rw [List.nil_append] at own); have O5 := Lib.hid own; have F5 := Lib.hid ((F4.out.alloc (by omega) _).trans hb); have E5 := Lib.hid (below_chain EB.out HB0 F5.out); have hz5 := F5.out.size; have x1 := keepB (p := ⟨ga.block, ga.off + 1, none⟩) F5.out hB0 a1; clear own hb hk hg hz)
            | (at_builtin; refine wp_appComb (by rfl) _ _ (by rfl) wo.heap.size _ _ _ _ (by rfl) (by exact O5.out) _ _ _ (argI c a 1) (by rfl) (by exact X1.out _ E5.out) (by omega) (by first | omega | (simp <;> omega)) ?_; intro A6 c6 w6 own hb hk hg hz; (try rw [Nat.zero_add] at own); (try rw [Nat.add_zero] at own); (try rw [List.nil_append] at own); have O6 := Lib.hid own; have F6 := Lib.hid ((F5.out).trans hb); have E6 := Lib.hid (below_chain EB.out HB0 F6.out); have hz6 := F6.out.size; have x2 := keepB (p := ⟨ga.block, ga.off + 2, none⟩) F6.out hB0 a2; clear own hb hk hg hz)
            | (at_builtin; refine wp_appComb (by rfl) _ _ (by rfl) wo.heap.size _ _ _ _ (by rfl) (by exact O6.out) _ _ _ (argI c a 2) (by rfl) (by exact X2.out _ E6.out) (by omega) (by first | omega | (simp <;> omega)) ?_; intro A7 c7 w7 own hb hk hg hz; (try rw [Nat.zero_add] at own); (try rw [Nat.add_zero] at own); (try rw [List.nil_append] at own); have O7 := Lib.hid own; have F7 := Lib.hid ((F6.out).trans hb); have E7 := Lib.hid (below_chain EB.out HB0 F7.out); have hz7 := F7.out.size; skip; clear own hb hk hg hz)
            | (at_builtin; refine wp_appComb (by rfl) _ _ (by rfl) wo.heap.size _ _ _ _ (by rfl) (by exact O7.out) _ _ _ (c.drop z) (by rfl) (by exact XZ.out _ E7.out) (by omega) (by first | omega | (simp <;> omega)) ?_; intro A8 c8 w8 own hb hk hg hz; (try rw [Nat.zero_add] at own); (try rw [Nat.add_zero] at own); (try rw [List.nil_append] at own); have O8 := Lib.hid own; have F8 := Lib.hid ((F7.out).trans hb); have E8 := Lib.hid (below_chain EB.out HB0 F8.out); have hz8 := F8.out.size; skip; clear own hb hk hg hz))
          have HO := Lib.hid (show Own w8 wo.heap.size 50 2 A8 _ c8 (S.flatMap enc2) by rw [← HSS.out]; simpa [List.flatMap_append, List.append_assoc, enc2] using O8.out)
          have hcap := HO.out.cap
          have HR2 := Lib.hid HO.out.pairs
          have hsl := HR2.out.len
          have EE := Lib.hid E8.out
          go_wp2_with (go_at_call 25; refine (l12Comb_c _ _ _ S q _ HR2.out (by omega) HQ.out).mono ?_; rintro e w' ⟨rfl, hb⟩)
          go_ret2
          exact ⟨_, _, _, rfl, (HO.out.wrK.wider HB0 (Nat.le_refl _)).below hb |>.wider (Nat.le_refl _) hb.size, hsl, hcap, below_chain EE.out EE.out.size hb⟩
      · obtain rfl : z = cp := by omega
        have XZ := Lib.hid (show ∀ w', Below w.heap.size w w' → Rd2 w' (some ad) 0 (c.drop z) from fun w' hb => by
          rw [List.drop_eq_nil_of_le (by rw [HL.out]; omega)]; exact Rd2.none0)
        by_cases h3 : i < 3
        · have HSS := Lib.hid (show c.take k ++ argI c a 0 ++ c.drop z = S by rw [← HS.out, byC, if_pos h3, HA.out])
          clear HE HZ HS
          go_wp2_with (first
            | (at_builtin; refine wp_appComb (by rfl) _ _ (by rfl) wo.heap.size _ _ _ _ (by rfl) (by exact Own.litK (Nat.le_refl _)) _ _ _ (c.take k) (by rfl) (by exact XK.out _ (EB.out.alloc (by omega) _)) (by omega) (by first | omega | (simp <;> omega)) ?_; intro A1 c1 w1 own hb hk hg hz; (try rw [Nat.zero_add] at own); (try rw [Nat.add_zero] at own); (try rw [List.nil_append] at own); have O1 := Lib.hid own; have F1 := Lib.hid ((below_size.alloc (Nat.le_refl _) _).trans hb); have E1 := Lib.hid (below_chain EB.out HB0 F1.out); have hz1 := F1.out.size; have x0 := keepB F1.out hB0 a0; clear own hb hk hg hz)
            | (at_builtin; refine wp_appComb (by rfl) _ _ (by rfl) wo.heap.size _ _ _ _ (by rfl) (by exact O1.out) _ _ _ (argI c a 0) (by rfl) (by exact X0.out _ E1.out) (by omega) (by first | omega | (simp <;> omega)) ?_; intro A2 c2 w2 own hb hk hg hz; (try rw [Nat.zero_add] at own); (try rw [Nat.add_zero] at own); (try rw [List.nil_append] at own); have O2 := Lib.hid own; have F2 := Lib.hid ((F1.out).trans hb); have E2 := Lib.hid (below_chain EB.out HB0 F2.out); have hz2 := F2.out.size; skip; clear own hb hk hg hz)
            | (at_builtin; refine wp_appComb (by rfl) _ _ (by rfl) wo.heap.size _ _ _ _ (by rfl) (by exact O2.out) _ _ _ (c.drop z) (by rfl) (by exact XZ.out _ E2.out) (by omega) (by first | omega | (simp <;> omega)) ?_; intro A3 c3 w3 own hb hk hg hz; (try rw [Nat.zero_add] at own); (try rw [Nat.add_zero] at own); (try rw [List.nil_append] at own); have O3 := Lib.hid own; have F3 := Lib.hid ((F2.out).trans hb); have E3 := Lib.hid (below_chain EB.out HB0 F3.out); have hz3 := F3.out.size; skip; clear own hb hk hg hz))
          have HO := Lib.hid (show Own w3 wo.heap.size 50 2 A3 _ c3 (S.flatMap enc2) by rw [← HSS.out]; simpa [List.flatMap_append, List.append_assoc, enc2] using O3.out)
          have hcap := HO.out.cap
          have HR2 := Lib.hid HO.out.pairs
          have hsl := HR2.out.len
          have EE := Lib.hid E3.out
          go_wp2_with (go_at_call 25; refine (l12Comb_c _ _ _ S q _ HR2.out (by omega) HQ.out).mono ?_; rintro e w' ⟨rfl, hb⟩)
          go_ret2
          exact ⟨_, _, _, rfl, (HO.out.wrK.wider HB0 (Nat.le_refl _)).below hb |>.wider (Nat.le_refl _) hb.size, hsl, hcap, below_chain EE.out EE.out.size hb⟩
        · obtain rfl : i = 3 := by omega
          have HSS := Lib.hid (show c.take k ++ ([(0, 0), (0, 0)] ++ argI c a 0 ++ argI c a 2 ++ [(0, 0)] ++ argI c a 1 ++ argI c a 2) ++ c.drop z = S by rw [← HS.out, byC, if_neg h3, HA.out])
          obtain ⟨P1, l1, d1, hv1, hl1, hx1⟩ := HX.out 1 (by omega)
          obtain ⟨P2, l2, d2, hv2, hl2, hx2⟩ := HX.out 2 (by omega)
          have X1 := Lib.hid hx1; have X2 := Lib.hid hx2
          have a1 : wo.cell? ⟨ga.block, ga.off + 1, none⟩ = some (.slice (some P1) l1 d1) := by rw [← addr1, ← hv1]; exact WW.out 1 (by omega)
          have a2 : wo.cell? ⟨ga.block, ga.off + 2, none⟩ = some (.slice (some P2) l2 d2) := by rw [← addr2, ← hv2]; exact WW.out 2 (by omega)
          clear HE HZ HS hv1 hv2 hx1 hx2
          go_wp2_with (first
            | (at_builtin; refine wp_appComb (by rfl) _ _ (by rfl) wo.heap.size _ _ _ _ (by rfl) (by exact Own.litK (Nat.le_refl _)) _ _ _ (c.take k) (by rfl) (by exact XK.out _ (EB.out.alloc (by omega) _)) (by omega) (by first | omega | (simp <;> omega)) ?_; intro A1 c1 w1 own hb hk hg hz; (try rw [Nat.zero_add] at own); (try rw [Nat.add_zero] at own); (try rw [List.nil_append] at own); have O1 := Lib.hid own; have F1 := Lib.hid ((below_size.alloc (Nat.le_refl _) _).trans hb); have E1 := Lib.hid (below_chain EB.out HB0 F1.out); have hz1 := F1.out.size; skip; clear own hb hk hg hz)
            | (at_builtin; refine wp_appComb (by rfl) _ _ (by rfl) wo.heap.size _ _ _ _ (by rfl) (by exact O1.out.alloc _) _ _ _ ([(0, 0), (0, 0)]) (by rfl) (by exact rd_new2 [(0, 0), (0, 0)] _ rfl rfl) (by omega) (by first | omega | (simp <;> omega)) ?_; intro A2 c2 w2 own hb hk hg hz; (try rw [Nat.zero_add] at own); (try rw [Nat.add_zero] at own); (try rw [List.nil_append] at own); have O2 := Lib.hid own; have F2 := Lib.hid ((F1.out.alloc (by omega) _).trans hb); have E2 := Lib.hid (below_chain EB.out HB0 F2.out); have hz2 := F2.out.size; have x0 := keepB F2.out hB0 a0; clear own hb hk hg hz)
            | (at_builtin; refine wp_appComb (by rfl) _ _ (by rfl) wo.heap.size _ _ _ _ (by rfl) (by exact O2.out) _ _ _ (argI c a 0) (by rfl) (by exact X0.out _ E2.out) (by omega) (by first | omega | (simp <;> omega)) ?_; intro A3 c3 w3 own hb hk hg hz; (try rw [Nat.zero_add] at own); (try rw [Nat.add_zero] at own); (try rw [List.nil_append] at own); have O3 := Lib.hid own; have F3 := Lib.hid ((F2.out).trans hb); have E3 := Lib.hid (below_chain EB.out HB0 F3.out); have hz3 := F3.out.size; have x2 := keepB (p := ⟨ga.block, ga.off + 2, none⟩) F3.out hB0 a2; clear own hb hk hg hz)
            | (at_builtin; refine wp_appComb (by rfl) _ _ (by rfl) wo.heap.size _ _ _ _ (by rfl) (by exact O3.out) _ _ _ (argI c a 2) (by rfl) (by exact X2.out _ E3.out) (by omega) (by first | omega | (simp <;> omega)) ?_; intro A4 c4 w4 own hb hk hg hz; (try rw [Nat.zero_add] at own); (try rw [Nat.add_zero] at own); (try rw [List.nil_append] at own); have O4 := Lib.hid own; have F4 := Lib.hid ((F3.out).trans hb); have E4 := Lib.hid (below_chain EB.out HB0 F4.out); have hz4 := F4.out.size; skip; clear own hb hk hg hz)
            | (at_builtin; refine wp_appComb (by rfl) _ _ (by rfl) wo.heap.size _ _ _ _ (by rfl) (by exact O4.out.alloc _) _ _ _ ([(0, 0)]) (by rfl) (by exact rd_new2 [(0, 0)] _ rfl rfl) (by omega) (by first | omega | (simp <;> omega)) ?_; intro A5 c5 w5 own hb hk hg hz; (try rw [Nat.zero_add] at own); (try rw [Nat.add_zero] at own); (try rw [List.nil_append] at own); have O5 := Lib.hid own; have F5 := Lib.hid ((F4.out.alloc (by omega) _).trans hb); have E5 := Lib.hid (below_chain EB.out HB0 F5.out); have hz5 := F5.out.size; have x1 := keepB (p := ⟨ga.block, ga.off + 1, none⟩) F5.out hB0 a1; clear own hb hk hg hz)
            | (at_builtin; refine wp_appComb (by rfl) _ _ (by rfl) wo.heap.size _ _ _ _ (by rfl) (by exact O5.out) _ _ _ (argI c a 1) (by rfl) (by exact X1.out _ E5.out) (by omega) (by first | omega | (simp <;> omega)) ?_; intro A6 c6 w6 own hb hk hg hz; (try rw [Nat.zero_add] at own); (try rw [Nat.add_zero] at own); (try rw [List.nil_append] at own); have O6 := Lib.hid own; have F6 := Lib.hid ((F5.out).trans hb); have E6 := Lib.hid (below_chain EB.out HB0 F6.out); have hz6 := F6.out.size; have x2 := keepB (p := ⟨ga.block, ga.off + 2, none⟩) F6.out hB0 a2; clear own hb hk hg hz)
            | (at_builtin; refine wp_appComb (by rfl) _ _ (by rfl) wo.heap.size _ _ _ _ (by rfl) (by exact O6.out) _ _ _ (argI c a 2) (by rfl) (by exact X2.out _ E6.out) (by omega) (by first | omega | (simp <;> omega)) ?_; intro A7 c7 w7 own hb hk hg hz; (try rw [Nat.zero_add] at own); (try rw [Nat.add_zero] at own); (try rw [List.nil_append] at own); have O7 := Lib.hid own; have F7 := Lib.hid ((F6.out).trans hb); have E7 := Lib.hid (below_chain EB.out HB0 F7.out); have hz7 := F7.out.size; skip; clear own hb hk hg hz)
            | (at_builtin; refine wp_appComb (by rfl) _ _ (by rfl) wo.heap.size _ _ _ _ (by rfl) (by exact O7.out) _ _ _ (c.drop z) (by rfl) (by exact XZ.out _ E7.out) (by omega) (by first | omega | (simp <;> omega)) ?_; intro A8 c8 w8 own hb hk hg hz; (try rw [Nat.zero_add] at own); (try rw [Nat.add_zero] at own); (try rw [List.nil_append] at own); have O8 := Lib.hid own; have F8 := Lib.hid ((F7.out).trans hb); have E8 := Lib.hid (below_chain EB.out HB0 F8.out); have hz8 := F8.out.size; skip; clear own hb hk hg hz))
          have HO := Lib.hid (show Own w8 wo.heap.size 50 2 A8 _ c8 (S.flatMap enc2) by rw [← HSS.out]; simpa [List.flatMap_append, List.append_assoc, enc2] using O8.out)
          have hcap := HO.out.cap
          have HR2 := Lib.hid HO.out.pairs
          have hsl := HR2.out.len
          have EE := Lib.hid E8.out
          go_wp2_with (go_at_call 25; refine (l12Comb_c _ _ _ S q _ HR2.out (by omega) HQ.out).mono ?_; rintro e w' ⟨rfl, hb⟩)
          go_ret2
          exact ⟨_, _, _, rfl, (HO.out.wrK.wider HB0 (Nat.le_refl _)).below hb |>.wider (Nat.le_refl _) hb.size, hsl, hcap, below_chain EE.out EE.out.size hb⟩
end Go.Proofs.Ytfgnhdmiglobhaa
