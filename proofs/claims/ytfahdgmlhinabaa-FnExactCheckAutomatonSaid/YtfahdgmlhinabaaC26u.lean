/-
  Contracts of chapter 26: valid nodes of the search by segments.
-/
import Derived.Test.YtfahdgmlhinabaaC26t
import Derived.Test.YtfahdgmlhinabaaEqI
namespace Go.Proofs.Ytfahdgmlhinabaa
open Go.RowKit

def nodeB (sy st : Int) (x : List Int) : Bool :=
  inB ((x.length : Int) - 2) 1 9 && inB (x.getD 0 0) (-1) ((x.length : Int) - 2) && allB (-1) (sy - 1) (x.drop 2) &&
    (if x.getD 0 0 = -1 ∨ x.getD 0 0 = (x.length : Int) - 2 then x.getD 1 0 == -1 else inB (x.getD 1 0) 0 (st - 1) && x.getD (2 + x.getD 0 0).toNat 0 != -1)
theorem nodeB_ok {sy st : Int} {x : List Int} (h : nodeB sy st x = true) : NodeOk sy st x := by
  simp only [nodeB, Bool.and_eq_true] at h
  obtain ⟨⟨⟨h1, h2⟩, h3⟩, h4⟩ := h
  have g1 := inB_t h1; have g2 := inB_t h2
  refine ⟨by omega, by omega, fun hx => ?_, fun ha hb => ?_, fun k hk hl => ?_⟩
  · rw [if_pos hx] at h4; simpa using h4
  · rw [if_neg (by omega)] at h4
    simp only [Bool.and_eq_true] at h4
    exact inB_t h4.1
  · have hm : x[k] ∈ x.drop 2 := by
      have : (x.drop 2)[k - 2]? = some x[k] := by rw [List.getElem?_drop, show 2 + (k - 2) = k by omega]; exact List.getElem?_eq_getElem hl
      exact List.mem_of_getElem? this
    have := allB_mem h3 _ hm
    rw [List.getD_eq_getElem?_getD, List.getElem?_eq_getElem hl]; exact this
/-- the cells of a node -/
theorem RdI.drop {w : World} {ad : Addr} {n k : Nat} {xs : List Int} (h : RdI w (some ad) n xs) (hk : k ≤ n) : RdI w (some (ad.add k)) (n - k) (xs.drop k) :=
  ⟨by rw [List.length_map, List.length_drop, h.len], fun hp => by
    obtain ⟨ad', e', hlt, hcs⟩ := h.2 (by omega)
    injection e' with e'; subst e'
    refine ⟨_, rfl, by rw [block_add]; exact hlt, fun j u hj => ?_⟩
    rw [add_add]
    refine hcs (k + j) u ?_
    rw [List.getElem?_map] at hj ⊢
    rw [List.getElem?_drop] at hj; exact hj⟩
theorem node_at {w : World} {A : Option Addr} {n : Nat} {x : List Int} (h : RdI w A n x) (hn : 3 ≤ n) : ∃ ad x0 x1, A = some ad ∧ w.cell? ad = some (i64 x0) ∧ w.cell? ⟨ad.block, ad.off + 1, none⟩ = some (i64 x1) ∧ x.getD 0 0 = x0 ∧ x.getD 1 0 = x1 ∧ ad.block < w.heap.size := by
  obtain ⟨ad, x0, rfl, hab, hx0, hc0⟩ := h.at_ (k := 0) (by omega)
  obtain ⟨ad', x1, e1, _, hx1, hc1⟩ := h.at_ (k := 1) (by omega)
  injection e1 with e1; subst e1
  have ea : ad.add 0 = ad := by simp [Addr.add]
  have eb : ad.add 1 = ⟨ad.block, ad.off + 1, none⟩ := by simp [Addr.add]
  rw [ea] at hc0; rw [eb] at hc1
  exact ⟨ad, x0, x1, rfl, hc0, hc1, getD_at hx0, getD_at hx1, hab⟩
theorem sizeOk_b (n : Int) (b : Bool) (hb : inB n 1 9 = b) (w : World) : Calls Try.prog 71 #[.int .i64 n] w fun e w' => e = .returned (.bool b) ∧ w = w' := by
  go_enter Try.func71, Try.ntmps71
  go_wp2_with fail
  refine (within_b _ _ _ _ hb _).mono ?_
  rintro e w' ⟨rfl, rfl⟩
  go_wp2_with fail
  go_ret
  exact ⟨rfl, rfl⟩
set_option maxHeartbeats 4000000 in
theorem validSegment_c (sy st : Int) (A : Option Addr) (n cp : Nat) (A' : Option Addr) (m c : Nat) (x : List Int) (q : Bool) (w : World) (h : RdI w A' m x) (hsy : 2 ≤ sy ∧ sy ≤ 6) (hst : 1 ≤ st ∧ st ≤ 1000) (hm : m ≤ 1000000000) (hmc : m ≤ c) (hq : nodeB sy st x = q) :
    Calls Try.prog 59 #[.agg #[.int .i64 sy, .int .i64 st, .slice A n cp], .slice A' m c] w fun e w' => e = .returned (.bool q) ∧ Below w.heap.size w w' := by
  have HL := Lib.hid h.len
  have HQ := Lib.hid (show (inB ((m : Int) - 2) 1 9 && inB (x.getD 0 0) (-1) ((m : Int) - 2) && allB (-1) (sy - 1) (x.drop 2) &&
    (if x.getD 0 0 = -1 ∨ x.getD 0 0 = (m : Int) - 2 then x.getD 1 0 == -1 else inB (x.getD 1 0) 0 (st - 1) && x.getD (2 + x.getD 0 0).toNat 0 != -1)) = q by rw [← hq, nodeB, h.len])
  have v0 : IntKind.i64.wrap ((m : Int) - 2) = (m : Int) - 2 := IntWalk.i64_in _ (by omega)
  have v1 : IntKind.i64.wrap (sy - 1) = sy - 1 := IntWalk.i64_in _ (by omega)
  have v2 : IntKind.i64.wrap (st - 1) = st - 1 := IntWalk.i64_in _ (by omega)
  obtain ⟨u1, i1⟩ : ∃ u, inB ((m : Int) - 2) 1 9 = u := ⟨_, rfl⟩
  have H := Lib.hid h
  rw [i1] at HQ
  clear hq h
  cases u1
  · have HF := Lib.hid (show false = q by rw [← HQ.out]; simp)
    go_enter Try.func59, Try.ntmps59
    go_wp2_with (go_at_call 81; refine (sizeI_c _ _ _ _ (by omega)).mono ?_; rintro e w' ⟨rfl, rfl⟩)
    go_quiet (first | (go_at_call 71; first | exact quiet_left (sizeOk_b _ _ i1 _) | exact quiet_add_left (sizeOk_b _ _ i1 _)))
    go_wp2_with fail
    go_ret
    exact ⟨by rw [← HF.out]; rfl, below_drewN (below_size.alloc (Nat.le_refl _) _) _⟩
  have hm9 := inB_t i1
  obtain ⟨ad, x0, x1, rfl, hc0, hc1, hx0, hx1, hab⟩ := node_at H.out (by omega)
  rw [hx0, hx1] at HQ
  obtain ⟨w0, hw0⟩ : ∃ w0, w.alloc (.cells #[i64 sy, i64 st, .slice A n cp] 32) = w0 := ⟨_, rfl⟩
  have b0 : Blk w0 w.heap.size 32 #[i64 sy, i64 st, .slice A n cp] := by rw [← hw0]; exact Blk.new w _ _
  have B0 := Lib.hid (show Below w.heap.size w w0 by rw [← hw0]; exact below_size.alloc (Nat.le_refl _) _)
  have d0 := keepc B0.out hc0; have d1 := keepc B0.out hc1
  have m0 := b0.cell 0; have m1 := b0.cell 1
  simp at m0 m1
  have H0 := Lib.hid (H.out.below B0.out)
  have HD := Lib.hid (H0.out.drop (k := 2) (by omega))
  have p2 : 0 < m := by omega
  have p3 : 1 < m := by omega
  have HX := Lib.hid hx0
  clear hc0 hc1 hx0 hx1 b0
  obtain ⟨u2, i2⟩ : ∃ u, inB x0 (-1) ((m : Int) - 2) = u := ⟨_, rfl⟩
  rw [i2] at HQ
  cases u2
  · have HF := Lib.hid (show false = q by rw [← HQ.out]; simp)
    go_enter Try.func59, Try.ntmps59
    go_wp2_with (go_at_call 81; refine (sizeI_c _ _ _ _ (by omega)).mono ?_; rintro e w' ⟨rfl, rfl⟩)
    go_quiet (first | (go_at_call 71; first | exact quiet_left (sizeOk_b _ _ i1 _) | exact quiet_add_left (sizeOk_b _ _ i1 _)) | (go_at_call 80; first | exact quiet_left (within_b _ _ _ _ i2 _) | exact quiet_add_left (within_b _ _ _ _ i2 _)))
    go_wp2_with fail
    go_ret
    exact ⟨by rw [← HF.out]; rfl, below_drewN B0.out _⟩
  obtain ⟨u3, i3⟩ : ∃ u, allB (-1) (sy - 1) (x.drop 2) = u := ⟨_, rfl⟩
  rw [i3] at HQ
  have hm3 : 3 ≤ m := by omega
  cases u3
  · have HF := Lib.hid (show false = q by rw [← HQ.out]; simp)
    go_enter Try.func59, Try.ntmps59
    go_wp2_with (go_at_call 81; refine (sizeI_c _ _ _ _ (by omega)).mono ?_; rintro e w' ⟨rfl, rfl⟩)
    go_quiet (first | (go_at_call 71; first | exact quiet_left (sizeOk_b _ _ i1 _) | exact quiet_add_left (sizeOk_b _ _ i1 _)) | (go_at_call 80; first | exact quiet_left (within_b _ _ _ _ i2 _) | exact quiet_add_left (within_b _ _ _ _ i2 _)) | (go_at_call 95; first | exact quiet_left (allWithin_b _ _ _ _ _ _ _ i3 _ (by exact HD.out.drewN _) (by omega)) | exact quiet_add_left (allWithin_b _ _ _ _ _ _ _ i3 _ (by exact HD.out.drewN _) (by omega))))
    go_wp2_with fail
    go_ret
    exact ⟨by rw [← HF.out]; rfl, below_drewN B0.out _⟩
  have HE := Lib.hid (show (if x0 = -1 ∨ x0 = (m : Int) - 2 then x1 == -1 else inB x1 0 (st - 1) && x.getD (2 + x0).toNat 0 != -1) = q by rw [← HQ.out]; simp)
  have hx0b := inB_t i2
  clear HQ
  by_cases c4 : x0 = -1 ∨ x0 = (m : Int) - 2
  · have HF := Lib.hid (show (x1 == -1) = q by rw [← HE.out, if_pos c4])
    have kk : (x0 == -1) = true ∨ ((x0 == -1) = false ∧ (x0 == (m : Int) - 2) = true) := by
      by_cases h1 : x0 = -1
      · exact .inl (by simp [h1])
      · exact .inr ⟨by simpa using h1, by simpa using c4.resolve_left h1⟩
    clear c4 HE HX
    rcases kk with k5 | ⟨k5, k6⟩
    all_goals
      go_enter Try.func59, Try.ntmps59
      go_wp2_with (go_at_call 81; refine (sizeI_c _ _ _ _ (by omega)).mono ?_; rintro e w' ⟨rfl, rfl⟩)
      go_quiet (first | (go_at_call 71; first | exact quiet_left (sizeOk_b _ _ i1 _) | exact quiet_add_left (sizeOk_b _ _ i1 _)) | (go_at_call 80; first | exact quiet_left (within_b _ _ _ _ i2 _) | exact quiet_add_left (within_b _ _ _ _ i2 _)) | (go_at_call 95; first | exact quiet_left (allWithin_b _ _ _ _ _ _ _ i3 _ (by exact HD.out.drewN _) (by omega)) | exact quiet_add_left (allWithin_b _ _ _ _ _ _ _ i3 _ (by exact HD.out.drewN _) (by omega))))
      go_wp2_with fail
      go_ret
      exact ⟨by rw [← HF.out]; rfl, below_drewN B0.out _⟩
  · have k5 : (x0 == -1) = false := by simp; omega
    have k6 : (x0 == (m : Int) - 2) = false := by simp; omega
    obtain ⟨hN, rfl⟩ := Int.eq_ofNat_of_zero_le (show 0 ≤ x0 by omega)
    have hN2 : 2 + hN < m := by omega
    obtain ⟨ad', xv, e1, _, hxv, hcv⟩ := H0.out.at_ (k := 2 + hN) hN2
    injection e1 with e1; subst e1
    have HF := Lib.hid (show (inB x1 0 (st - 1) && xv != -1) = q by rw [← HE.out, if_neg c4, show (2 + (hN : Int)).toNat = 2 + hN by omega, getD_at hxv])
    have va : IntKind.i64.wrap (2 + (hN : Int)) = ((2 + hN : Nat) : Int) := (IntWalk.i64_in _ (by omega)).trans (by omega)
    obtain ⟨u4, i4⟩ : ∃ u, inB x1 0 (st - 1) = u := ⟨_, rfl⟩
    obtain ⟨u5, i5⟩ : ∃ u, (xv != -1) = u := ⟨_, rfl⟩
    rw [i4, i5] at HF
    clear c4 HE HX hxv
    cases u4
    all_goals
      go_enter Try.func59, Try.ntmps59
      go_wp2_with (go_at_call 81; refine (sizeI_c _ _ _ _ (by omega)).mono ?_; rintro e w' ⟨rfl, rfl⟩)
      go_quiet (first | (go_at_call 71; first | exact quiet_left (sizeOk_b _ _ i1 _) | exact quiet_add_left (sizeOk_b _ _ i1 _)) | (go_at_call 80; first | exact quiet_left (within_b _ _ _ _ i2 _) | exact quiet_add_left (within_b _ _ _ _ i2 _)) | (go_at_call 95; first | exact quiet_left (allWithin_b _ _ _ _ _ _ _ i3 _ (by exact HD.out.drewN _) (by omega)) | exact quiet_add_left (allWithin_b _ _ _ _ _ _ _ i3 _ (by exact HD.out.drewN _) (by omega))))
      go_wp2_with fail
      go_quiet (first | (go_at_call 80; first | exact quiet_left (within_b _ _ _ _ i4 _) | exact quiet_add_left (within_b _ _ _ _ i4 _)))
      go_wp2_with fail
      go_ret
      exact ⟨by rw [← HF.out]; rfl, below_drewN (below_drewN B0.out _) _⟩
set_option maxHeartbeats 4000000 in
theorem l26Node_c (g : Nat) (sy st : Int) (A : Option Addr) (n cp : Nat) (rs : List Rule3) (A' : Option Addr) (m c : Nat) (x : List Int) (q : Bool) (w : World) (hM : MachP w g sy st A n cp rs) (h : RdI w A' m x) (hsy : 2 ≤ sy ∧ sy ≤ 6) (hst : 1 ≤ st ∧ st ≤ 1000) (hm : m ≤ 1000000000) (hq : nodeB sy st x = q) :
    Calls Try.prog 55 #[.pointer (some ⟨g, 0, none⟩), .slice A' m c] w fun e w' => e = .returned (.bool q) ∧ Qt w w' := by
  have HL := Lib.hid h.len
  have HQ := Lib.hid (show (inB ((m : Int) - 2) 1 9 && inB (x.getD 0 0) (-1) ((m : Int) - 2) && allB (-1) (sy - 1) (x.drop 2) &&
    (if x.getD 0 0 = -1 ∨ x.getD 0 0 = (m : Int) - 2 then x.getD 1 0 == -1 else inB (x.getD 1 0) 0 (st - 1) && x.getD (2 + x.getD 0 0).toNat 0 != -1)) = q by rw [← hq, nodeB, h.len])
  obtain ⟨u1, i1⟩ : ∃ u, inB ((m : Int) - 2) 1 9 = u := ⟨_, rfl⟩
  have H := Lib.hid h
  have m0 := hM.c0; have m1 := hM.c1
  rw [i1] at HQ
  clear hq h hM
  cases u1
  · have HF := Lib.hid (show false = q by rw [← HQ.out]; simp)
    go_enter Try.func55, Try.ntmps55
    go_wp2_with (go_at_call 69; refine (l00In_b _ _ _ _ i1 _).mono ?_; rintro e w' ⟨rfl, rfl⟩)
    go_ret
    exact ⟨by rw [← HF.out]; rfl, (by first | exact Qt.refl _ | exact ⟨_, rfl⟩ | exact Qt.drewN ⟨_, rfl⟩ _)⟩
  have hm9 := inB_t i1
  obtain ⟨ad, x0, x1, rfl, hc0, hc1, hx0, hx1, hab⟩ := node_at H.out (by omega)
  rw [hx0, hx1] at HQ
  have p2 : 0 < m := by omega
  have p3 : 1 < m := by omega
  clear hx0 hx1
  obtain ⟨u2, i2⟩ : ∃ u, inB x0 (-1) ((m : Int) - 2) = u := ⟨_, rfl⟩
  rw [i2] at HQ
  cases u2
  · have HF := Lib.hid (show false = q by rw [← HQ.out]; simp)
    go_enter Try.func55, Try.ntmps55
    go_wp2_with (first | (go_at_call 69; refine (l00In_b _ _ _ _ (by first | exact i1 | exact i2) _).mono ?_; rintro e w' ⟨rfl, rfl⟩))
    go_ret
    exact ⟨by rw [← HF.out]; rfl, (by first | exact Qt.refl _ | exact ⟨_, rfl⟩ | exact Qt.drewN ⟨_, rfl⟩ _)⟩
  have HE := Lib.hid (show (allB (-1) (sy - 1) (x.drop 2) && (if x0 = -1 ∨ x0 = (m : Int) - 2 then x1 == -1 else inB x1 0 (st - 1) && x.getD (2 + x0).toNat 0 != -1)) = q by rw [← HQ.out]; simp)
  clear HQ
  have hm3 : 3 ≤ m := by omega
  go_enter Try.func55, Try.ntmps55
  go_wp2_with (first | (go_at_call 69; refine (l00In_b _ _ _ _ (by first | exact i1 | exact i2) _).mono ?_; rintro e w' ⟨rfl, rfl⟩))
  go_loopw [6] (fun iv wr => ∃ k : Nat, 2 ≤ k ∧ k ≤ m ∧ iv = .int .i64 k ∧ Hid (allB (-1) (sy - 1) (x.drop 2) = allB (-1) (sy - 1) (x.drop k)) ∧ Qt w wr) (fun iv _ => m - (intOf iv).toNat)
  case atStart => exact ⟨2, by omega, by omega, rfl, rfl, (by first | exact Qt.refl _ | exact ⟨_, rfl⟩ | exact Qt.drewN ⟨_, rfl⟩ _)⟩
  case round =>
    obtain ⟨k, hk2, hk, rfl, hr, hq⟩ := hrel
    obtain ⟨mm, rfl⟩ := hq
    have v1 : IntKind.i64.wrap (sy - 1) = sy - 1 := IntWalk.i64_in _ (by omega)
    have v2 : IntKind.i64.wrap (st - 1) = st - 1 := IntWalk.i64_in _ (by omega)
    by_cases hlt : k < m
    · obtain ⟨ad', y, e1, hab, hy, hcy⟩ := H.out.at_ hlt
      injection e1 with e1; subst e1
      have Hy := Lib.hid hy; clear hy
      cases hin : inB y (-1) (sy - 1)
      · have HF := Lib.hid (show false = q by rw [← HE.out, hr.out, drop_at Hy.out, allB, hin]; simp)
        clear hr
        go_wp2_with fail
        go_quiet (first | (go_at_call 69; first | exact quiet_left (l00In_b _ _ _ _ hin _) | exact quiet_add_left (l00In_b _ _ _ _ hin _)))
        go_wp2_with fail
        go_ret
        exact ⟨by rw [← HF.out]; rfl, (by first | exact Qt.refl _ | exact ⟨_, rfl⟩ | exact Qt.drewN ⟨_, rfl⟩ _)⟩
      · have HF := Lib.hid (show allB (-1) (sy - 1) (x.drop 2) = allB (-1) (sy - 1) (x.drop (k + 1)) by rw [hr.out, drop_at Hy.out, allB, hin]; rfl)
        clear hr
        go_wp2_with fail
        go_quiet (first | (go_at_call 69; first | exact quiet_left (l00In_b _ _ _ _ hin _) | exact quiet_add_left (l00In_b _ _ _ _ hin _)))
        go_wp2_with fail
        go_roundw
        case rel => exact ⟨k + 1, by omega, by omega, by go_num, HF.out, (by first | exact Qt.refl _ | exact ⟨_, rfl⟩ | exact Qt.drewN ⟨_, rfl⟩ _)⟩
        case measure => simp [intOf]; omega
    · have HF := Lib.hid (show (if x0 = -1 ∨ x0 = (m : Int) - 2 then x1 == -1 else inB x1 0 (st - 1) && x.getD (2 + x0).toNat 0 != -1) = q by rw [← HE.out, hr.out, List.drop_eq_nil_of_le (by rw [HL.out]; omega)]; rfl)
      have hx0b := inB_t i2
      have HA := Lib.hid (show allB (-1) (sy - 1) (x.drop 2) = true by rw [hr.out, List.drop_eq_nil_of_le (by rw [HL.out]; omega)]; rfl)
      clear hr HE
      by_cases c4 : x0 = -1 ∨ x0 = (m : Int) - 2
      · have HG := Lib.hid (show (x1 == -1) = q by rw [← HF.out, if_pos c4])
        have kk : decide (x0 < 0) = true ∨ (decide (x0 < 0) = false ∧ (x0 == (m : Int) - 2) = true) := by
          by_cases h1 : x0 = -1
          · exact .inl (by simp [h1])
          · exact .inr ⟨by simp; omega, by simpa using c4.resolve_left h1⟩
        clear c4 HF
        rcases kk with k5 | ⟨k5, k6⟩
        all_goals
          go_wp2_with fail
          go_ret
          exact ⟨by rw [← HG.out]; rfl, (by first | exact Qt.refl _ | exact ⟨_, rfl⟩ | exact Qt.drewN ⟨_, rfl⟩ _)⟩
      · have k5 : decide (x0 < 0) = false := by simp; omega
        have k6 : (x0 == (m : Int) - 2) = false := by simp; omega
        obtain ⟨hN, rfl⟩ := Int.eq_ofNat_of_zero_le (show 0 ≤ x0 by omega)
        have hN2 : 2 + hN < m := by omega
        obtain ⟨ad', xv, e1, _, hxv, hcv⟩ := H.out.at_ (k := 2 + hN) hN2
        injection e1 with e1; subst e1
        have HG := Lib.hid (show (inB x1 0 (st - 1) && decide (0 ≤ xv)) = q by
          have hxm : xv ∈ x.drop 2 := List.mem_of_getElem? (show (x.drop 2)[hN]? = some xv by rw [List.getElem?_drop]; exact hxv)
          have hxb := allB_mem HA.out _ hxm
          rw [← HF.out, if_neg c4, show (2 + (hN : Int)).toNat = 2 + hN by omega, getD_at hxv]
          congr 1
          by_cases hz : xv = -1
          · simp [hz]
          · have : 0 ≤ xv := by omega
            simp [this, hz])
        have va : IntKind.i64.wrap (2 + (hN : Int)) = ((2 + hN : Nat) : Int) := (IntWalk.i64_in _ (by omega)).trans (by omega)
        obtain ⟨u4, i4⟩ : ∃ u, inB x1 0 (st - 1) = u := ⟨_, rfl⟩
        obtain ⟨u5, i5⟩ : ∃ u, decide (0 ≤ xv) = u := ⟨_, rfl⟩
        rw [i4, i5] at HG
        clear c4 HF hxv
        cases u4
        all_goals
          go_wp2_with fail
          go_quiet (first | (go_at_call 69; first | exact quiet_left (l00In_b _ _ _ _ i4 _) | exact quiet_add_left (l00In_b _ _ _ _ i4 _)))
          go_wp2_with fail
          go_ret
          exact ⟨by rw [← HG.out]; rfl, (by first | exact Qt.refl _ | exact ⟨_, rfl⟩ | exact Qt.drewN ⟨_, rfl⟩ _)⟩
end Go.Proofs.Ytfahdgmlhinabaa
