/-
  Contracts of chapter 12: lambda terms of the reference: the first redex, shifting, substituting, one step, the run.
-/
import Derived.Test.YtcanahpgkedcjaaC12l
import Derived.Test.YtcanahpgkedcjaaC12d
namespace Go.Proofs.Ytcanahpgkedcjaa
open Go.RowKit

theorem pair_set {M D : List (Int × Int)} {y : Int × Int} {k : Nat} (hk : M.length = k) (v : Int) : ((M ++ y :: D).flatMap enc2).set (k * 2 + 1) (i64 v) = (M ++ (y.1, v) :: D).flatMap enc2 := by
  rw [List.flatMap_append, List.set_append_right _ _ (by rw [flatX_len enc2 2 enc2_len, hk]; omega), flatX_len enc2 2 enc2_len, hk, Nat.add_sub_cancel_left, List.flatMap_cons, List.flatMap_append, List.flatMap_cons]
  rfl
theorem len2_of {w : World} {lo hi m : Nat} {A : Option Addr} {F : List (Int × Int)} (h : Wr w lo hi A (m * 2) (F.flatMap enc2)) : F.length = m := Rd2.len (w := w) (A := A) h.rd
set_option maxHeartbeats 1000000 in
theorem l12Redex_c (A : Option Addr) (n cp : Nat) (c : List (Int × Int)) (F : Option Nat) (w : World) (h : Rd2 w A n c) (hn : n ≤ 1000000000) (hF : redL c n 0 = F) :
    Calls Try.prog 65 #[.slice A n cp] w fun e w' => e = .returned (.int .i64 (atI F)) ∧ w = w' := by
  have HL := Lib.hid h.len
  have HF := Lib.hid hF
  have H := Lib.hid h; clear h hF
  go_enter Try.func65, Try.ntmps65
  go_wp2_with fail
  go_loop [3] (fun kv => ∃ k : Nat, k ≤ n ∧ kv = .int .i64 k ∧ Hid (redL c (n - k) k = F)) (fun kv => n - (intOf kv).toNat)
  case atStart => exact ⟨0, by omega, rfl, HF.out⟩
  case round =>
    obtain ⟨k, hk, rfl, hr⟩ := hrel
    have v1 : IntKind.i64.wrap ((k : Int) + 1) = (k : Int) + 1 := IntWalk.i64_in _ (by omega)
    by_cases hlt : k + 1 < n
    · have g1 : decide ((k : Int) + 1 < (n : Int)) = true := by rw [decide_eq_true_eq]; omega
      obtain ⟨ad, x, rfl, hab, hx, hc0, hc1⟩ := H.out.at_ (k := k) (by omega)
      obtain ⟨ad', y, e, _, hy, hd0, hd1⟩ := H.out.at_ hlt
      injection e with e; subst e
      obtain ⟨p, v⟩ := x; obtain ⟨p', v'⟩ := y
      simp only at hc0 hc1 hd0 hd1
      have HS := Lib.hid (show (if (decide (p = 2) && decide (p' = 1)) = true then some k else redL c (n - (k + 1)) (k + 1)) = F by rw [← hr.out, show n - k = n - (k + 1) + 1 by omega, redL, redB_at hx hy])
      clear hx hy hr
      by_cases h2 : p = 2
      · subst h2
        by_cases h1 : p' = 1
        · subst h1
          have HG := Lib.hid (show some k = F from HS.out)
          go_wp2_with fail
          go_ret
          exact ⟨by rw [← HG.out]; rfl, rfl⟩
        · have g2 : (p' == 1) = false := by simpa using h1
          have HG := Lib.hid (show redL c (n - (k + 1)) (k + 1) = F by rw [← HS.out, if_neg (by simp [h1])])
          go_wp2_with fail
          go_round
          case rel => exact ⟨k + 1, by omega, by go_num, HG.out⟩
          case measure => simp [intOf]; omega
      · have g2 : (p == 2) = false := by simpa using h2
        have HG := Lib.hid (show redL c (n - (k + 1)) (k + 1) = F by rw [← HS.out, if_neg (by simp [h2])])
        go_wp2_with fail
        go_round
        case rel => exact ⟨k + 1, by omega, by go_num, HG.out⟩
        case measure => simp [intOf]; omega
    · have g1 : decide ((k : Int) + 1 < (n : Int)) = false := by rw [decide_eq_false_iff_not]; omega
      have HG := Lib.hid (show none = F by
        rw [← hr.out]
        rcases Nat.eq_zero_or_pos (n - k) with h0 | h0
        · rw [h0]; rfl
        · rw [show n - k = 0 + 1 by omega, redL, redB_last (by rw [HL.out]; omega)]; rfl)
      go_wp2_with fail
      go_ret
      exact ⟨by rw [← HG.out]; rfl, rfl⟩
set_option maxHeartbeats 1000000 in
theorem redexAt_c (A : Option Addr) (n cp : Nat) (c : List (Int × Int)) (F : Option Nat) (w : World) (h : Rd2 w A n c) (hn : n ≤ 1000000000) (hF : redL c n 0 = F) :
    Calls Try.prog 73 #[.slice A n cp] w fun e w' => e = .returned (.int .i64 (atI F)) ∧ w = w' := by
  have HL := Lib.hid h.len
  have HF := Lib.hid hF
  have H := Lib.hid h; clear h hF
  go_enter Try.func73, Try.ntmps73
  go_wp2_with fail
  go_loop [3] (fun kv => ∃ k : Nat, k ≤ n ∧ kv = .int .i64 k ∧ Hid (redL c (n - k) k = F)) (fun kv => n - (intOf kv).toNat)
  case atStart => exact ⟨0, by omega, rfl, HF.out⟩
  case round =>
    obtain ⟨k, hk, rfl, hr⟩ := hrel
    have v1 : IntKind.i64.wrap ((k : Int) + 1) = (k : Int) + 1 := IntWalk.i64_in _ (by omega)
    by_cases hlt : k + 1 < n
    · have g1 : decide ((k : Int) + 1 < (n : Int)) = true := by rw [decide_eq_true_eq]; omega
      obtain ⟨ad, x, rfl, hab, hx, hc0, hc1⟩ := H.out.at_ (k := k) (by omega)
      obtain ⟨ad', y, e, _, hy, hd0, hd1⟩ := H.out.at_ hlt
      injection e with e; subst e
      obtain ⟨p, v⟩ := x; obtain ⟨p', v'⟩ := y
      simp only at hc0 hc1 hd0 hd1
      have HS := Lib.hid (show (if (decide (p = 2) && decide (p' = 1)) = true then some k else redL c (n - (k + 1)) (k + 1)) = F by rw [← hr.out, show n - k = n - (k + 1) + 1 by omega, redL, redB_at hx hy])
      clear hx hy hr
      by_cases h2 : p = 2
      · subst h2
        by_cases h1 : p' = 1
        · subst h1
          have HG := Lib.hid (show some k = F from HS.out)
          go_wp2_with fail
          go_ret
          exact ⟨by rw [← HG.out]; rfl, rfl⟩
        · have g2 : (p' == 1) = false := by simpa using h1
          have HG := Lib.hid (show redL c (n - (k + 1)) (k + 1) = F by rw [← HS.out, if_neg (by simp [h1])])
          go_wp2_with fail
          go_round
          case rel => exact ⟨k + 1, by omega, by go_num, HG.out⟩
          case measure => simp [intOf]; omega
      · have g2 : (p == 2) = false := by simpa using h2
        have HG := Lib.hid (show redL c (n - (k + 1)) (k + 1) = F by rw [← HS.out, if_neg (by simp [h2])])
        go_wp2_with fail
        go_round
        case rel => exact ⟨k + 1, by omega, by go_num, HG.out⟩
        case measure => simp [intOf]; omega
    · have g1 : decide ((k : Int) + 1 < (n : Int)) = false := by rw [decide_eq_false_iff_not]; omega
      have HG := Lib.hid (show none = F by
        rw [← hr.out]
        rcases Nat.eq_zero_or_pos (n - k) with h0 | h0
        · rw [h0]; rfl
        · rw [show n - k = 0 + 1 by omega, redL, redB_last (by rw [HL.out]; omega)]; rfl)
      go_wp2_with fail
      go_ret
      exact ⟨by rw [← HG.out]; rfl, rfl⟩
set_option maxHeartbeats 4000000 in
set_option maxRecDepth 100000 in
theorem l12Shift_c (A : Option Addr) (n cp : Nat) (c : List (Int × Int)) (b : Nat) (S : List (Int × Int)) (w : World) (h : Rd2 w A n c) (hn : n ≤ 1000) (hv : endP manyL c 1 = some c.length) (hok : ∀ x ∈ c, okL x = true) (hb : b ≤ 1000) (hS : shiftL b c = S) :
    Calls Try.prog 128 #[.slice A n cp, .int .i64 0, .int .i64 b] w fun e w' => ∃ A' c', e = .returned (.slice A' n c') ∧ Wr w' w.heap.size w'.heap.size A' (n * 2) (S.flatMap enc2) ∧ n ≤ c' ∧ Below w.heap.size w w' := by
  have hl := h.len
  have hdl : (depL c [0]).length = n := by rw [← hl]; exact depL_len hv
  obtain ⟨D, hD⟩ : ∃ D, depL c [0] = D := ⟨_, rfl⟩
  rw [hD] at hdl
  have hDb : ∀ d ∈ D, d ≤ n := fun d hd => by rw [← hD] at hd; have := depL_le (M := 0) (st := [0]) (l := c) (by simp) d hd; omega
  have HSZ := Lib.hid (show List.zipWith (shE b) c D = S by rw [← hS, shiftL_zip, hD])
  have HL := Lib.hid hl; have HDL := Lib.hid hdl; have HDB := Lib.hid hDb; have HV := Lib.hid hv; have HD := Lib.hid hD; have HOK := Lib.hid hok
  have H := Lib.hid h
  have HC := Lib.hid (show Rd2 (w.alloc (.cells #[] 62)) A n c from h.alloc _)
  have hn1 : 1 ≤ n := by rw [← hl]; rcases Nat.eq_zero_or_pos c.length with h0 | h0; (· rw [List.length_eq_zero_iff.1 h0] at hv; cases hv); (· exact h0)
  clear h hv hok hS hl hdl hDb hD
  go_enter Try.func128, Try.ntmps128
  go_wp2_with (at_builtin; refine wp_appLam (by rfl) _ _ (by rfl) w.heap.size (some ⟨w.heap.size, 0, none⟩) 0 0 [] (by rfl) (by exact Own.litK (Nat.le_refl _)) A n cp c (by rfl) (by exact HC.out) (by omega) (by simp) ?_; intro A1 c1 w1 own1 hb1 hk1 hg1 hz1)
  rw [Nat.zero_add, List.nil_append] at own1
  have O1 := Lib.hid own1; have B1 := Lib.hid ((below_size.alloc (Nat.le_refl _) (.cells #[] 62)).trans hb1)
  have hz1 := B1.out.size
  have hcap1 := own1.cap
  clear own1 hb1 hk1 hg1
  refine (l12Depths_c A n cp c w1 (H.out.below B1.out) hn HV.out).mono ?_
  rw [HD.out]
  rintro e w2 ⟨A2, c2, rfl, hw2, hb2⟩
  have B2 := Lib.hid (below_chain B1.out hz1 hb2)
  have O2 := Lib.hid ((O1.out.keep hb2).wrK)
  have hz2 := hb2.size
  obtain ⟨a1, rfl, _⟩ := O2.out.2 (by omega)
  have O2' := Lib.hid (show Wr w2 w.heap.size w1.heap.size (some a1) (n * 2) (c.flatMap enc2) from O1.out.wrK.below hb2)
  have D2 := Lib.hid (show Wr w2 w1.heap.size w2.heap.size A2 n ((dpI D).map i64) from hw2)
  clear hw2 hb2 O1 O2
  go_wp2_with fail
  go_loopw [9] (fun iv wr => ∃ k : Nat, k ≤ n ∧ iv = .int .i64 k ∧ Hid (Wr wr w.heap.size w1.heap.size (some a1) (n * 2) ((S.take k ++ c.drop k).flatMap enc2)) ∧ Hid (Wr wr w1.heap.size w2.heap.size A2 n ((dpI D).map i64)) ∧ Hid (Below w.heap.size w wr) ∧ w1.heap.size ≤ wr.heap.size) (fun iv _ => n - (intOf iv).toNat)
  case atStart => exact ⟨0, by omega, rfl, by simpa [Hid] using O2'.out, D2.out, B2.out, hz2⟩
  case round =>
    clear O2' D2
    obtain ⟨k, hk, rfl, hW, hDd, hB, hzw⟩ := hrel
    by_cases hlt : k < n
    · obtain ⟨x, hx⟩ : ∃ x, c[k]? = some x := ⟨_, List.getElem?_eq_getElem (by rw [HL.out]; exact hlt)⟩
      obtain ⟨d, hd⟩ : ∃ d, D[k]? = some d := ⟨_, List.getElem?_eq_getElem (by rw [HDL.out]; exact hlt)⟩
      have hdn := HDB.out d (List.mem_of_getElem? hd)
      have hox := okL_cases (HOK.out x (List.mem_of_getElem? hx))
      have hSk : S[k]? = some (shE b x d) := by rw [← HSZ.out, List.getElem?_zipWith, hx, hd]
      have hml : (S.take k).length = k := by rw [List.length_take, ← HSZ.out, List.length_zipWith, HL.out, HDL.out]; omega
      have hW1 := hW.out
      rw [drop_at hx] at hW1
      have hR1 : Rd2 wr (some a1) n (S.take k ++ x :: c.drop (k + 1)) := hW1.rd
      obtain ⟨_, y', e', hab1, hy', hc0, hc1⟩ := hR1.at_ hlt
      injection e' with e'; subst e'
      rw [List.getElem?_append_right (by omega), hml, Nat.sub_self, List.getElem?_cons_zero] at hy'
      injection hy' with hy'; subst hy'
      obtain ⟨_, _, e', hlo, hhi, _, _, _, hf⟩ := hW1.at_ (k := k * 2 + 1) (by omega)
      injection e' with e'; subst e'
      obtain ⟨ag, g, rfl, hag, hg, hcg⟩ := (RdI.at_ (show RdI wr A2 n (dpI D) from hDd.out.rdI) (k := k) hlt)
      have hgd : g = (d : Int) := by
        rw [dpI, List.getElem?_map, hd] at hg
        injection hg with hg; exact hg.symm
      subst hgd
      have a1' : (⟨(a1.add (k * 2)).block, (a1.add (k * 2)).off + 1, none⟩ : Addr) = a1.add (k * 2 + 1) := next_off a1 (k * 2) 0
      obtain ⟨t, v⟩ := x
      simp only at hc0 hc1 hox
      have HA1 := Lib.hid a1'
      have hf2 : wr.frozen? ⟨(a1.add (k * 2)).block, (a1.add (k * 2)).off + 1, none⟩ = false := by rw [a1']; exact hf
      clear a1' hf
      have vd0 : IntKind.i64.wrap ((d : Int) + 0) = (d : Int) := by rw [IntWalk.i64_in _ (by omega)]; omega
      have vd1 : IntKind.i64.wrap (d : Int) = (d : Int) := IntWalk.i64_in _ (by omega)
      have vb : IntKind.i64.wrap (v + (b : Int)) = v + (b : Int) := IntWalk.i64_in _ (by omega)
      have HTK := Lib.hid (show S.take (k + 1) = S.take k ++ [shE b (t, v) d] from take_at hSk)
      have HW1 := Lib.hid hW1
      by_cases hc : t = 0 ∧ (d : Int) ≤ v
      · obtain ⟨h0, hdv⟩ := hc
        subst h0
        have HSE := Lib.hid (show shE b (0, v) d = (0, v + b) by rw [shE, if_pos ⟨rfl, hdv⟩])
        have gd : decide ((d : Int) ≤ v) = true := by rw [decide_eq_true_eq]; exact hdv
        have HWF := Lib.hid (show ((S.take k ++ (0, v) :: c.drop (k + 1)).flatMap enc2).set (k * 2 + 1) (i64 (v + b)) = (S.take (k + 1) ++ c.drop (k + 1)).flatMap enc2 by
          rw [pair_set hml, HTK.out, HSE.out, List.append_assoc]; rfl)
        have hlo' : w.heap.size ≤ (a1.add (k * 2 + 1)).block := by rw [block_add]; exact hlo
        clear hx hd hSk hW1 hW hR1 hg
        go_wp2_with fail
        go_quiet (fail)
        go_wp2_with fail
        rw [HA1.out]
        go_roundw
        case rel =>
          refine ⟨k + 1, by omega, by go_num, ?_, ?_, ?_, ?_⟩
          · have h1 := (HW1.out.below (below_drewN below_size nq)).set (k := k * 2 + 1) (by omega) (i64 (v + b))
            rwa [HWF.out] at h1
          · exact (hDd.out.below (below_drewN below_size nq)).set_far (.inl (by rw [block_add]; exact hhi)) _
          · exact (below_drewN hB.out nq).setCell hlo' _
          · rw [World.size_setCell]; exact hzw
        case measure => simp [intOf]; omega
      · have HSE := Lib.hid (show shE b (t, v) d = (t, v) by rw [shE, if_neg hc])
        have HWF := Lib.hid (show Wr wr w.heap.size w1.heap.size (some a1) (n * 2) ((S.take (k + 1) ++ c.drop (k + 1)).flatMap enc2) by
          have h1 := hW1
          rwa [show S.take k ++ (t, v) :: c.drop (k + 1) = S.take (k + 1) ++ c.drop (k + 1) by rw [HTK.out, HSE.out, List.append_assoc]; rfl] at h1)
        clear hx hd hSk hW1 hW hR1 hg
        by_cases h0 : t = 0
        · subst h0
          have gd : decide ((d : Int) ≤ v) = false := by rw [decide_eq_false_iff_not]; intro h; exact hc ⟨rfl, h⟩
          go_wp2_with fail
          go_quiet (fail)
          go_wp2_with fail
          go_roundw
          case rel => exact ⟨k + 1, by omega, by go_num, HWF.out.below (below_drewN below_size nq), hDd.out.below (below_drewN below_size nq), below_drewN hB.out nq, hzw⟩
          case measure => simp [intOf]; omega
        · have g0 : (t == 0) = false := by simpa using h0
          go_wp2_with fail
          go_quiet (fail)
          go_wp2_with fail
          go_roundw
          case rel => exact ⟨k + 1, by omega, by go_num, HWF.out.below (below_drewN below_size nq), hDd.out.below (below_drewN below_size nq), below_drewN hB.out nq, hzw⟩
          case measure => simp [intOf]; omega
    · obtain rfl : k = n := by omega
      have HSn := Lib.hid (show Wr wr w.heap.size wr.heap.size (some a1) (k * 2) (S.flatMap enc2) by
        have h1 := hW.out
        rw [List.drop_eq_nil_of_le (by rw [HL.out]; exact Nat.le_refl _), List.append_nil, List.take_of_length_le (by rw [← HSZ.out, List.length_zipWith, HL.out, HDL.out]; omega)] at h1
        exact h1.wider (Nat.le_refl _) hzw)
      go_wp2_with fail
      go_ret
      exact ⟨some a1, c1, rfl, HSn.out, hcap1, hB.out⟩
end Go.Proofs.Ytcanahpgkedcjaa
