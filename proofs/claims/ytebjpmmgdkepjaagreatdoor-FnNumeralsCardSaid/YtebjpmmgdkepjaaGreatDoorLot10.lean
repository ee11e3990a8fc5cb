/-
  Parts of the proof, one behind the other: contracts of the functions that the law reaches, and plain laws.
-/
import Derived.Test.YtebjpmmgdkepjaaGreatDoorLot07
import Derived.Test.YtebjpmmgdkepjaaGreatDoorLot09
/-
  Contracts of chapter 12: what a form becomes.
-/
namespace Go.Proofs.YtebjpmmgdkepjaaGreatDoor
open Go.RowKit

/-- pairs of the call's own -/
def fQ (n : Nat) (xs : List (Int × Int)) : MixA.Fact1 := fun _ v lo hi w => ∃ A c, v = .slice A n c ∧ Wr w lo hi A (n * 2) (xs.flatMap enc2)
theorem fQ_st (n : Nat) (xs : List (Int × Int)) : MixA.Stab (fQ n xs) := fun _ _ _ _ _ _ hb h => by obtain ⟨A, c, e, hw⟩ := h; exact ⟨A, c, e, hw.below hb⟩
set_option maxHeartbeats 1000000 in
theorem contractedNo_c (A : Option Addr) (n cp : Nat) (c : List (Int × Int)) (k : Nat) (w : World) (h : Rd2 w A n c) (hn : n ≤ 1000000000) (hk : k ≤ n) (hf : formC (c.drop k) = 0) :
    Calls Tryz.prog 195 #[.slice A n cp, .int .i64 k] w fun e w' => e = .returned (.tuple #[.slice none 0 0, .int .i64 (-1)]) ∧ Below w.heap.size w w' := by
  have R := Lib.hid (show Rd2 (w.alloc (.cells #[.int .i64 0, .int .i64 0] 100)) A n c from h.alloc _)
  have t1 := formC_try (kind := 3) (m := 1) (by omega) (show formC (c.drop k) ≠ 1 by omega)
  have t2 := formC_try (kind := 2) (m := 2) (by omega) (show formC (c.drop k) ≠ 2 by omega)
  have t3 := formC_try (kind := 1) (m := 3) (by omega) (show formC (c.drop k) ≠ 3 by omega)
  have T1 := Lib.hid t1; have T2 := Lib.hid t2; have T3 := Lib.hid t3
  clear t1 t2 t3 h hf
  go_enter Tryz.func195, Tryz.ntmps195
  go_wp2_with (go_at_call 210; refine (argumentsNo_c A n cp c k _ _ _ _ R.out hn hk (by first | exact T1.out | exact T2.out | exact T3.out) (by rfl) (by omega)).mono ?_; rintro e w' ⟨rfl, rfl⟩)
  go_ret2
  exact ⟨rfl, below_size.alloc (Nat.le_refl _) _⟩
set_option maxHeartbeats 4000000 in
set_option maxRecDepth 100000 in
theorem contractedYes_c (ad : Addr) (n cp : Nat) (c : List (Int × Int)) (k m z : Nat) (w : World) (h : Rd2 w (some ad) n c) (hn : n ≤ 400) (hnc : n ≤ cp) (hv : endP manyC c 1 = some c.length) (hk : k < n) (hm : formC (c.drop k) = m) (h0 : 0 < m) (hz : endI c (k + m + 1) m = z) :
    Calls Tryz.prog 195 #[.slice (some ad) n cp, .int .i64 k] w fun e w' => ∃ A N cap, e = .returned (.tuple #[.slice A N cap, .int .i64 z]) ∧ Rd2 w' A N (byC c k m) ∧ N ≤ 2000 ∧ z ≤ n ∧ Below w.heap.size w w' := by
  have hl := h.len
  have hf : 0 < formC (c.drop k) := by omega
  obtain ⟨a, ha⟩ : ∃ a, k + m + 1 = a := ⟨_, rfl⟩
  rw [ha] at hz
  have hzn : z ≤ n := by
    obtain ⟨h1, r, h2, h3⟩ := form_args hv (by rw [hl]; exact hk)
    rw [← (formC_lead hf).1, hm, ha] at h2 h3
    rw [← hz, endI_all h2]; omega
  have hE : ∀ i, i < m → ∃ p, endP manyC (c.drop (endI c a i)) 1 = some p ∧ endI c a i + p = endI c a (i + 1) ∧ 1 ≤ p := by
    obtain ⟨h1, r, h2, h3⟩ := form_args hv (by rw [hl]; exact hk)
    rw [← (formC_lead hf).1, hm, ha] at h2
    exact fun i hi => endI_ok h2 hi
  have hX : ∀ j, j < m → ∃ P l d, argV ad cp c a j = .slice (some P) l d ∧ l ≤ n ∧ ∀ w', Below w.heap.size w w' → Rd2 w' (some P) l (argI c a j) := fun j hj => by
    obtain ⟨p, _, h1, _⟩ := hE j hj
    have h2 : endI c a (j + 1) ≤ z := by rw [← hz]; exact endI_mono (by omega)
    exact ⟨_, _, _, rfl, by omega, fun w' hb => (h.below hb).part _ _ (by omega)⟩
  obtain ⟨P0, l0, d0, hv0, hl0, hx0⟩ := hX 0 (by omega)
  have X0 := Lib.hid hx0
  have R := Lib.hid (show Rd2 (w.alloc (.cells #[.int .i64 0, .int .i64 0] 100)) (some ad) n c from h.alloc _)
  have E0 := Lib.hid (show Below w.heap.size w (w.alloc (.cells #[.int .i64 0, .int .i64 0] 100)) from below_size.alloc (Nat.le_refl _) _)
  have HE := Lib.hid hE; have HX := Lib.hid hX; have HV0 := Lib.hid hv0
  have HA := Lib.hid ha; have HZ := Lib.hid hz
  rcases formC_pick hf with ⟨h1, ht⟩ | ⟨h1, ht⟩ | ⟨h1, ht⟩
  · obtain rfl : m = 1 := by omega
    have HT := Lib.hid ht
    have HB := Lib.hid (show byC c k 1 = argI c a 0 by rw [byC, if_pos (by omega), ha])
    clear h hl hf hE hX hv0 hx0 ha hz ht hm h1 hv
    go_enter Tryz.func195, Tryz.ntmps195
    go_wp2_with (go_at_call 210; refine (argumentsYes_c ad n cp c k _ _ _ a z _ R.out hn hnc (by exact HT.out) (by rfl) (by omega) (by omega) HA.out HZ.out hzn HE.out).mono ?_; rintro e w1 ⟨B, cc, rfl, hO, hb⟩; have E1 := Lib.hid (below_chain E0.out E0.out.size hb); obtain ⟨ga, v0, rfl, _, _, _, hv0, a0, _⟩ := hO.wr.at_ (k := 0) (by omega); rw [argVs_at (by omega)] at hv0; injection hv0 with hv0; rw [← hv0, HV0.out, addrZ] at a0; clear hv0 hb)
    go_ret2
    rw [HB.out]
    exact ⟨_, _, _, rfl, X0.out _ E1.out, by omega, hzn, E1.out⟩
  · obtain rfl : m = 2 := by omega
    have HT := Lib.hid ht
    have t1 := formC_try (kind := 3) (m := 1) (by omega) (show formC (c.drop k) ≠ 1 by omega)
    have T1 := Lib.hid t1
    have HB := Lib.hid (show byC c k 2 = argI c a 0 by rw [byC, if_pos (by omega), ha])
    clear h hl hf hE hX hv0 hx0 ha hz ht hm h1 hv t1
    go_enter Tryz.func195, Tryz.ntmps195
    go_wp2_with (first
      | (go_at_call 210; refine (argumentsNo_c (some ad) n cp c k _ _ _ _ R.out (by omega) (by omega) (by exact T1.out) (by rfl) (by omega)).mono ?_; rintro e w' ⟨rfl, rfl⟩)
      | (go_at_call 210; refine (argumentsYes_c ad n cp c k _ _ _ a z _ R.out hn hnc (by exact HT.out) (by rfl) (by omega) (by omega) HA.out HZ.out hzn HE.out).mono ?_; rintro e w1 ⟨B, cc, rfl, hO, hb⟩; have E1 := Lib.hid (below_chain E0.out E0.out.size hb); obtain ⟨ga, v0, rfl, _, _, _, hv0, a0, _⟩ := hO.wr.at_ (k := 0) (by omega); rw [argVs_at (by omega)] at hv0; injection hv0 with hv0; rw [← hv0, HV0.out, addrZ] at a0; clear hv0 hb))
    go_ret2
    rw [HB.out]
    exact ⟨_, _, _, rfl, X0.out _ E1.out, by omega, hzn, E1.out⟩
  · obtain rfl : m = 3 := by omega
    have HT := Lib.hid ht
    have t1 := formC_try (kind := 3) (m := 1) (by omega) (show formC (c.drop k) ≠ 1 by omega)
    have t2 := formC_try (kind := 2) (m := 2) (by omega) (show formC (c.drop k) ≠ 2 by omega)
    have T1 := Lib.hid t1; have T2 := Lib.hid t2
    have HB := Lib.hid (show byC c k 3 = [(0, 0)] ++ ([(0, 0)] ++ argI c a 0 ++ argI c a 2) ++ ([(0, 0)] ++ argI c a 1 ++ argI c a 2) by rw [byC, if_neg (by omega), ha]; simp)
    obtain ⟨P1, l1, d1, hv1, hl1, hx1⟩ := hX 1 (by omega)
    obtain ⟨P2, l2, d2, hv2, hl2, hx2⟩ := hX 2 (by omega)
    have X1 := Lib.hid hx1; have X2 := Lib.hid hx2; have HV1 := Lib.hid hv1; have HV2 := Lib.hid hv2
    have K0 := Lib.hid (show (w.alloc (.cells #[.int .i64 0, .int .i64 0] 100)).cell? ⟨w.heap.size, 0, none⟩ = some (.int .i64 0) from new_cell _ _ _ 0)
    have K1 := Lib.hid (show (w.alloc (.cells #[.int .i64 0, .int .i64 0] 100)).cell? ⟨w.heap.size, 1, none⟩ = some (.int .i64 0) from new_cell _ _ _ 1)
    clear h hl hf hE hX hv0 hx0 ha hz ht hm h1 hv t1 t2 hv1 hx1 hv2 hx2
    go_enter Tryz.func195, Tryz.ntmps195
    go_wp2_with (first
      | (go_at_call 210; refine (argumentsNo_c (some ad) n cp c k _ _ _ _ R.out (by omega) (by omega) (by first | exact T1.out | exact T2.out) (by rfl) (by omega)).mono ?_; rintro e w' ⟨rfl, rfl⟩)
      | (go_at_call 210; refine (argumentsYes_c ad n cp c k _ _ _ a z _ R.out hn hnc (by exact HT.out) (by rfl) (by omega) (by omega) HA.out HZ.out hzn HE.out).mono ?_; rintro e w3 ⟨B, cc, rfl, hO, hb⟩))
    have E3 := Lib.hid (below_chain E0.out E0.out.size hb)
    have k0 := keepc hb K0.out; have k1 := keepc hb K1.out
    have HW := Lib.hid hO.wr
    obtain ⟨ga, v0, rfl, _, _, _, _, _, _⟩ := HW.out.at_ (k := 0) (by omega)
    have WW : ∀ j, j < 3 → w3.cell? (ga.add j) = some (argV ad cp c a j) := fun j hj => by
      obtain ⟨gb, v, e, _, _, _, hv, h1, _⟩ := HW.out.at_ hj
      injection e with e; subst e
      rw [argVs_at hj] at hv; injection hv with hv; subst hv; exact h1
    have a0 : w3.cell? ga = some (.slice (some P0) l0 d0) := by rw [← addrZ ga, ← HV0.out]; exact WW 0 (by omega)
    have a1' : w3.cell? ⟨ga.block, ga.off + 1, none⟩ = some (.slice (some P1) l1 d1) := by rw [← addr1, ← HV1.out]; exact WW 1 (by omega)
    have a2 : w3.cell? ⟨ga.block, ga.off + 2, none⟩ = some (.slice (some P2) l2 d2) := by rw [← addr2, ← HV2.out]; exact WW 2 (by omega)
    clear hb hO WW
    have EW : ∀ w1, Below w3.drew.heap.size w3.drew w1 → Below w3.heap.size w3 w1 := fun w1 hb => below_of_drew hb
    go_wp2_with fail
    -- region
    refine MixA.wp_facts 23 [46, 47, 48, 49, 50, 51, 52, 53, 54, 55, 56, 57, 58, 59, 60, 61, 62, 63, 64, 65, 66, 67, 4] [[], [], [], [2], [3], [], [5], [6], [7], [1, 4, 8, 7], [], [], [11], [12], [], [14], [15], [16], [10, 13, 17, 16], [18], [0, 9, 19, 18], [], [20]]
      [MixA.fP (.agg #[.int .i64 0, .int .i64 0]),
       MixA.fP (.agg #[.int .i64 0, .int .i64 0]),
       MixA.fP (.slice (some ga) 3 cc),
       MixA.fP (.pointer (some ga)),
       MixA.fP (.slice (some P0) l0 d0),
       MixA.fP (.slice (some ga) 3 cc),
       MixA.fP (.pointer (some ⟨ga.block, ga.off + 2, none⟩)),
       MixA.fP (.slice (some P2) l2 d2),
       MixA.fR 37 1,
       fQ (1 + l0 + l2) ([(0, 0)] ++ argI c a 0 ++ argI c a 2),
       MixA.fP (.agg #[.int .i64 0, .int .i64 0]),
       MixA.fP (.slice (some ga) 3 cc),
       MixA.fP (.pointer (some ⟨ga.block, ga.off + 1, none⟩)),
       MixA.fP (.slice (some P1) l1 d1),
       MixA.fP (.slice (some ga) 3 cc),
       MixA.fP (.pointer (some ⟨ga.block, ga.off + 2, none⟩)),
       MixA.fP (.slice (some P2) l2 d2),
       MixA.fR 37 1,
       fQ (1 + l1 + l2) ([(0, 0)] ++ argI c a 1 ++ argI c a 2),
       MixA.fR 37 1,
       fQ (1 + (1 + l0 + l2) + (1 + l1 + l2)) (byC c k 3),
       MixA.fP (.int .i64 z),
       MixA.fM]
      (by kernel_rfl) (by kernel_rfl) (fun t ht => Nat.lt_of_lt_of_eq (show t < 68 by revert t; decide) rfl) ?_ ?_
    · intro f hf
      simp only [List.mem_cons, List.not_mem_nil, or_false] at hf
      rcases hf with rfl | rfl | rfl | rfl | rfl | rfl | rfl | rfl | rfl | rfl | rfl | rfl | rfl | rfl | rfl | rfl | rfl | rfl | rfl | rfl | rfl | rfl | rfl
      · exact MixA.fP_st _
      · exact MixA.fP_st _
      · exact MixA.fP_st _
      · exact MixA.fP_st _
      · exact MixA.fP_st _
      · exact MixA.fP_st _
      · exact MixA.fP_st _
      · exact MixA.fP_st _
      · exact MixA.fR_st _ _
      · exact fQ_st _ _
      · exact MixA.fP_st _
      · exact MixA.fP_st _
      · exact MixA.fP_st _
      · exact MixA.fP_st _
      · exact MixA.fP_st _
      · exact MixA.fP_st _
      · exact MixA.fP_st _
      · exact MixA.fR_st _ _
      · exact fQ_st _ _
      · exact MixA.fR_st _ _
      · exact fQ_st _ _
      · exact MixA.fP_st _
      · exact MixA.fM_st
    simp only [MixA.EachF]
    refine ⟨?_, ?_, ?_, ?_, ?_, ?_, ?_, ?_, ?_, ?_, ?_, ?_, ?_, ?_, ?_, ?_, ?_, ?_, ?_, ?_, ?_, ?_, ?_, ?_⟩
    · intro a1 w1 hf
      have E1 := EW w1 hf.below
      have hc0 : w1.cell? ⟨w.heap.size, 0, none⟩ = some (.int .i64 0) := keepc E1 k0
      have hc1 : w1.cell? ⟨w.heap.size, 1, none⟩ = some (.int .i64 0) := keepc E1 k1
      clear E1
      refine MixA.hop ⟨#[undef, undef, undef, undef, undef, undef, (.pointer (some ⟨w.heap.size, 0, none⟩)), undef, undef, undef, undef, undef, undef, undef, undef, undef, undef, undef, undef, undef, undef, undef, undef, undef, undef, undef, undef, undef, undef, undef, undef, undef, undef, undef, undef, undef, undef, undef, undef, undef, undef, undef, undef, undef, undef, undef, undef], []⟩ (by intro cs b e; cases e) rfl (show 46 < 47 by decide) ?_ ?_
      · intro x hx
        simp [Op.operands] at hx
        rcases hx with rfl
        · exact (hf.was (t := 6) (by decide) rfl).trans rfl
      go_wp2_with fail
      first | exact ⟨below_size, rfl⟩ | exact ⟨_, rfl, below_size, rfl⟩
    · intro a1 w1 hf
      have E1 := EW w1 hf.below
      have hc0 : w1.cell? ⟨w.heap.size, 0, none⟩ = some (.int .i64 0) := keepc E1 k0
      have hc1 : w1.cell? ⟨w.heap.size, 1, none⟩ = some (.int .i64 0) := keepc E1 k1
      clear E1
      refine MixA.hop ⟨#[undef, undef, undef, undef, undef, undef, (.pointer (some ⟨w.heap.size, 0, none⟩)), undef, undef, undef, undef, undef, undef, undef, undef, undef, undef, undef, undef, undef, undef, undef, undef, undef, undef, undef, undef, undef, undef, undef, undef, undef, undef, undef, undef, undef, undef, undef, undef, undef, undef, undef, undef, undef, undef, undef, undef, undef], []⟩ (by intro cs b e; cases e) rfl (show 47 < 48 by decide) ?_ ?_
      · intro x hx
        simp [Op.operands] at hx
        rcases hx with rfl
        · exact (hf.was (t := 6) (by decide) rfl).trans rfl
      go_wp2_with fail
      first | exact ⟨below_size, rfl⟩ | exact ⟨_, rfl, below_size, rfl⟩
    · intro a1 w1 hf
      refine MixA.hop ⟨#[undef, undef, undef, undef, undef, undef, undef, undef, undef, undef, undef, (.slice (some ga) 3 cc), undef, undef, undef, undef, undef, undef, undef, undef, undef, undef, undef, undef, undef, undef, undef, undef, undef, undef, undef, undef, undef, undef, undef, undef, undef, undef, undef, undef, undef, undef, undef, undef, undef, undef, undef, undef, undef], []⟩ (by intro cs b e; cases e) rfl (show 48 < 49 by decide) ?_ ?_
      · intro x hx
        simp [Op.operands] at hx
        rcases hx with rfl
        · exact (hf.was (t := 11) (by decide) rfl).trans rfl
      go_wp2_with fail
      first | exact ⟨below_size, rfl⟩ | exact ⟨_, rfl, below_size, rfl⟩
    · intro a1 w1 hf
      refine MixA.hop ⟨#[undef, undef, undef, undef, undef, undef, undef, undef, undef, undef, undef, undef, undef, undef, undef, undef, undef, undef, undef, undef, undef, undef, undef, undef, undef, undef, undef, undef, undef, undef, undef, undef, undef, undef, undef, undef, undef, undef, undef, undef, undef, undef, undef, undef, undef, undef, undef, undef, (.slice (some ga) 3 cc), undef], []⟩ (by intro cs b e; cases e) rfl (show 49 < 50 by decide) ?_ ?_
      · intro x hx
        simp [Op.operands] at hx
        rcases hx with rfl | rfl
        · exact (hf.pure (j := 2) (by decide) rfl).trans rfl
        · rfl
      go_wp2_with fail
      first | exact ⟨below_size, rfl⟩ | exact ⟨_, rfl, below_size, rfl⟩
    · intro a1 w1 hf
      have E1 := EW w1 hf.below
      have hc0 : w1.cell? ga = some (.slice (some P0) l0 d0) := keepc E1 a0
      clear E1
      refine MixA.hop ⟨#[undef, undef, undef, undef, undef, undef, undef, undef, undef, undef, undef, undef, undef, undef, undef, undef, undef, undef, undef, undef, undef, undef, undef, undef, undef, undef, undef, undef, undef, undef, undef, undef, undef, undef, undef, undef, undef, undef, undef, undef, undef, undef, undef, undef, undef, undef, undef, undef, undef, (.pointer (some ga)), undef], []⟩ (by intro cs b e; cases e) rfl (show 50 < 51 by decide) ?_ ?_
      · intro x hx
        simp [Op.operands] at hx
        rcases hx with rfl
        · exact (hf.pure (j := 3) (by decide) rfl).trans rfl
      go_wp2_with fail
      first | exact ⟨below_size, rfl⟩ | exact ⟨_, rfl, below_size, rfl⟩
    · intro a1 w1 hf
      refine MixA.hop ⟨#[undef, undef, undef, undef, undef, undef, undef, undef, undef, undef, undef, (.slice (some ga) 3 cc), undef, undef, undef, undef, undef, undef, undef, undef, undef, undef, undef, undef, undef, undef, undef, undef, undef, undef, undef, undef, undef, undef, undef, undef, undef, undef, undef, undef, undef, undef, undef, undef, undef, undef, undef, undef, undef, undef, undef, undef], []⟩ (by intro cs b e; cases e) rfl (show 51 < 52 by decide) ?_ ?_
      · intro x hx
        simp [Op.operands] at hx
        rcases hx with rfl
        · exact (hf.was (t := 11) (by decide) rfl).trans rfl
      go_wp2_with fail
      first | exact ⟨below_size, rfl⟩ | exact ⟨_, rfl, below_size, rfl⟩
    · intro a1 w1 hf
      refine MixA.hop ⟨#[undef, undef, undef, undef, undef, undef, undef, undef, undef, undef, undef, undef, undef, undef, undef, undef, undef, undef, undef, undef, undef, undef, undef, undef, undef, undef, undef, undef, undef, undef, undef, undef, undef, undef, undef, undef, undef, undef, undef, undef, undef, undef, undef, undef, undef, undef, undef, undef, undef, undef, undef, (.slice (some ga) 3 cc), undef], []⟩ (by intro cs b e; cases e) rfl (show 52 < 53 by decide) ?_ ?_
      · intro x hx
        simp [Op.operands] at hx
        rcases hx with rfl | rfl
        · exact (hf.pure (j := 5) (by decide) rfl).trans rfl
        · rfl
      go_wp2_with fail
      first | exact ⟨below_size, rfl⟩ | exact ⟨_, rfl, below_size, rfl⟩
    · intro a1 w1 hf
      have E1 := EW w1 hf.below
      have hc0 : w1.cell? ⟨ga.block, ga.off + 2, none⟩ = some (.slice (some P2) l2 d2) := keepc E1 a2
      clear E1
      refine MixA.hop ⟨#[undef, undef, undef, undef, undef, undef, undef, undef, undef, undef, undef, undef, undef, undef, undef, undef, undef, undef, undef, undef, undef, undef, undef, undef, undef, undef, undef, undef, undef, undef, undef, undef, undef, undef, undef, undef, undef, undef, undef, undef, undef, undef, undef, undef, undef, undef, undef, undef, undef, undef, undef, undef, (.pointer (some ⟨ga.block, ga.off + 2, none⟩)), undef], []⟩ (by intro cs b e; cases e) rfl (show 53 < 54 by decide) ?_ ?_
      · intro x hx
        simp [Op.operands] at hx
        rcases hx with rfl
        · exact (hf.pure (j := 6) (by decide) rfl).trans rfl
      go_wp2_with fail
      first | exact ⟨below_size, rfl⟩ | exact ⟨_, rfl, below_size, rfl⟩
    · intro a1 w1 hf
      obtain ⟨R, hR, _⟩ := hf.facts
      have hv53 : MixA.val a1 53 = .slice (some P2) l2 d2 := (hR 7 (by decide)).1
      clear hR
      refine MixA.hop ⟨#[undef, undef, undef, undef, undef, undef, undef, undef, undef, undef, undef, undef, undef, undef, undef, undef, undef, undef, undef, undef, undef, undef, undef, undef, undef, undef, undef, undef, undef, undef, undef, undef, undef, undef, undef, undef, undef, undef, undef, undef, undef, undef, undef, undef, undef, undef, undef, undef, undef, undef, undef, undef, undef, (.slice (some P2) l2 d2), undef], []⟩ (by intro cs b e; cases e) rfl (show 54 < 55 by decide) ?_ ?_
      · intro x hx
        simp [Op.operands] at hx
        rcases hx with rfl
        · exact hv53.trans rfl
      go_wp2_with fail
      refine ⟨below_size.alloc (Nat.le_refl _) _, w1.heap.size, rfl, Nat.le_refl _, by simp, ?_⟩
      exact Blk.new w1 _ _
    · intro a1 w1 hf
      obtain ⟨R, hR, _⟩ := hf.facts
      have hv47 : MixA.val a1 47 = .agg #[.int .i64 0, .int .i64 0] := (hR 1 (by decide)).1
      have hv50 : MixA.val a1 50 = .slice (some P0) l0 d0 := (hR 4 (by decide)).1
      have hv53 : MixA.val a1 53 = .slice (some P2) l2 d2 := (hR 7 (by decide)).1
      obtain ⟨g54, hv54, _, _, h54⟩ : MixA.fR 37 1 [MixA.val a1 53] (MixA.val a1 54) (R 8).1 (R 8).2 w1 := (hR 8 (by decide)).1
      rw [hv53] at h54
      have E1 := Lib.hid (E3.out.trans ((EW w1 hf.below).mono E3.out.size))
      have HRV1 := Lib.hid (rdVC (its := [itC (some P2) l2 d2 (argI c a 2)]) (n := 1) h54 (by simp [hdV, itC]) rfl (fun i hi => by
        rw [List.mem_singleton] at hi; subst hi
        exact itC_ok (X2.out _ E1.out)))
      have R0 := Lib.hid (X0.out _ E1.out)
      clear hR h54
      refine MixA.hop ⟨#[undef, undef, undef, undef, undef, undef, undef, undef, undef, undef, undef, undef, undef, undef, undef, undef, undef, undef, undef, undef, undef, undef, undef, undef, undef, undef, undef, undef, undef, undef, undef, undef, undef, undef, undef, undef, undef, undef, undef, undef, undef, undef, undef, undef, undef, undef, undef, (.agg #[.int .i64 0, .int .i64 0]), undef, undef, (.slice (some P0) l0 d0), undef, undef, undef, (.slice (some ⟨g54, 0, none⟩) 1 1), undef], []⟩ (by intro cs b e; cases e) rfl (show 55 < 56 by decide) ?_ ?_
      · intro x hx
        simp [Op.operands, Call.operands] at hx
        rcases hx with rfl | rfl | rfl | rfl
        · rfl
        · exact hv47.trans rfl
        · exact hv50.trans rfl
        · exact hv54.trans rfl
      go_wp2_with fail
      refine (appliedComb_c (0, 0) (some P0) l0 d0 (argI c a 0) (some ⟨g54, 0, none⟩) 1 1 (1 + l0 + l2) _ w1 R0.out HRV1.out (by omega) (by omega) (by simp [sumV, itC]; omega) (by simp [sumV, itC])).mono ?_
      rintro e w4 ⟨A4, c4, rfl, hw4, hc4, hb4⟩
      have L4 := Lib.hid (show Wr w4 w1.heap.size w4.heap.size A4 ((1 + l0 + l2) * 2) (([(0, 0)] ++ argI c a 0 ++ argI c a 2).flatMap enc2) by
        simpa [itC, List.flatMap_append, List.append_assoc] using hw4)
      have B4 := Lib.hid hb4
      clear hw4 hb4
      go_wp2_with fail
      exact ⟨B4.out, A4, c4, rfl, L4.out⟩
    · intro a1 w1 hf
      have E1 := EW w1 hf.below
      have hc0 : w1.cell? ⟨w.heap.size, 0, none⟩ = some (.int .i64 0) := keepc E1 k0
      have hc1 : w1.cell? ⟨w.heap.size, 1, none⟩ = some (.int .i64 0) := keepc E1 k1
      clear E1
      refine MixA.hop ⟨#[undef, undef, undef, undef, undef, undef, (.pointer (some ⟨w.heap.size, 0, none⟩)), undef, undef, undef, undef, undef, undef, undef, undef, undef, undef, undef, undef, undef, undef, undef, undef, undef, undef, undef, undef, undef, undef, undef, undef, undef, undef, undef, undef, undef, undef, undef, undef, undef, undef, undef, undef, undef, undef, undef, undef, undef, undef, undef, undef, undef, undef, undef, undef, undef, undef], []⟩ (by intro cs b e; cases e) rfl (show 56 < 57 by decide) ?_ ?_
      · intro x hx
        simp [Op.operands] at hx
        rcases hx with rfl
        · exact (hf.was (t := 6) (by decide) rfl).trans rfl
      go_wp2_with fail
      first | exact ⟨below_size, rfl⟩ | exact ⟨_, rfl, below_size, rfl⟩
    · intro a1 w1 hf
      refine MixA.hop ⟨#[undef, undef, undef, undef, undef, undef, undef, undef, undef, undef, undef, (.slice (some ga) 3 cc), undef, undef, undef, undef, undef, undef, undef, undef, undef, undef, undef, undef, undef, undef, undef, undef, undef, undef, undef, undef, undef, undef, undef, undef, undef, undef, undef, undef, undef, undef, undef, undef, undef, undef, undef, undef, undef, undef, undef, undef, undef, undef, undef, undef, undef, undef], []⟩ (by intro cs b e; cases e) rfl (show 57 < 58 by decide) ?_ ?_
      · intro x hx
        simp [Op.operands] at hx
        rcases hx with rfl
        · exact (hf.was (t := 11) (by decide) rfl).trans rfl
      go_wp2_with fail
      first | exact ⟨below_size, rfl⟩ | exact ⟨_, rfl, below_size, rfl⟩
    · intro a1 w1 hf
      refine MixA.hop ⟨#[undef, undef, undef, undef, undef, undef, undef, undef, undef, undef, undef, undef, undef, undef, undef, undef, undef, undef, undef, undef, undef, undef, undef, undef, undef, undef, undef, undef, undef, undef, undef, undef, undef, undef, undef, undef, undef, undef, undef, undef, undef, undef, undef, undef, undef, undef, undef, undef, undef, undef, undef, undef, undef, undef, undef, undef, undef, (.slice (some ga) 3 cc), undef], []⟩ (by intro cs b e; cases e) rfl (show 58 < 59 by decide) ?_ ?_
      · intro x hx
        simp [Op.operands] at hx
        rcases hx with rfl | rfl
        · exact (hf.pure (j := 11) (by decide) rfl).trans rfl
        · rfl
      go_wp2_with fail
      first | exact ⟨below_size, rfl⟩ | exact ⟨_, rfl, below_size, rfl⟩
    · intro a1 w1 hf
      have E1 := EW w1 hf.below
      have hc0 : w1.cell? ⟨ga.block, ga.off + 1, none⟩ = some (.slice (some P1) l1 d1) := keepc E1 a1'
      clear E1
      refine MixA.hop ⟨#[undef, undef, undef, undef, undef, undef, undef, undef, undef, undef, undef, undef, undef, undef, undef, undef, undef, undef, undef, undef, undef, undef, undef, undef, undef, undef, undef, undef, undef, undef, undef, undef, undef, undef, undef, undef, undef, undef, undef, undef, undef, undef, undef, undef, undef, undef, undef, undef, undef, undef, undef, undef, undef, undef, undef, undef, undef, undef, (.pointer (some ⟨ga.block, ga.off + 1, none⟩)), undef], []⟩ (by intro cs b e; cases e) rfl (show 59 < 60 by decide) ?_ ?_
      · intro x hx
        simp [Op.operands] at hx
        rcases hx with rfl
        · exact (hf.pure (j := 12) (by decide) rfl).trans rfl
      go_wp2_with fail
      first | exact ⟨below_size, rfl⟩ | exact ⟨_, rfl, below_size, rfl⟩
    · intro a1 w1 hf
      refine MixA.hop ⟨#[undef, undef, undef, undef, undef, undef, undef, undef, undef, undef, undef, (.slice (some ga) 3 cc), undef, undef, undef, undef, undef, undef, undef, undef, undef, undef, undef, undef, undef, undef, undef, undef, undef, undef, undef, undef, undef, undef, undef, undef, undef, undef, undef, undef, undef, undef, undef, undef, undef, undef, undef, undef, undef, undef, undef, undef, undef, undef, undef, undef, undef, undef, undef, undef, undef], []⟩ (by intro cs b e; cases e) rfl (show 60 < 61 by decide) ?_ ?_
      · intro x hx
        simp [Op.operands] at hx
        rcases hx with rfl
        · exact (hf.was (t := 11) (by decide) rfl).trans rfl
      go_wp2_with fail
      first | exact ⟨below_size, rfl⟩ | exact ⟨_, rfl, below_size, rfl⟩
    · intro a1 w1 hf
      refine MixA.hop ⟨#[undef, undef, undef, undef, undef, undef, undef, undef, undef, undef, undef, undef, undef, undef, undef, undef, undef, undef, undef, undef, undef, undef, undef, undef, undef, undef, undef, undef, undef, undef, undef, undef, undef, undef, undef, undef, undef, undef, undef, undef, undef, undef, undef, undef, undef, undef, undef, undef, undef, undef, undef, undef, undef, undef, undef, undef, undef, undef, undef, undef, (.slice (some ga) 3 cc), undef], []⟩ (by intro cs b e; cases e) rfl (show 61 < 62 by decide) ?_ ?_
      · intro x hx
        simp [Op.operands] at hx
        rcases hx with rfl | rfl
        · exact (hf.pure (j := 14) (by decide) rfl).trans rfl
        · rfl
      go_wp2_with fail
      first | exact ⟨below_size, rfl⟩ | exact ⟨_, rfl, below_size, rfl⟩
    · intro a1 w1 hf
      have E1 := EW w1 hf.below
      have hc0 : w1.cell? ⟨ga.block, ga.off + 2, none⟩ = some (.slice (some P2) l2 d2) := keepc E1 a2
      clear E1
      refine MixA.hop ⟨#[undef, undef, undef, undef, undef, undef, undef, undef, undef, undef, undef, undef, undef, undef, undef, undef, undef, undef, undef, undef, undef, undef, undef, undef, undef, undef, undef, undef, undef, undef, undef, undef, undef, undef, undef, undef, undef, undef, undef, undef, undef, undef, undef, undef, undef, undef, undef, undef, undef, undef, undef, undef, undef, undef, undef, undef, undef, undef, undef, undef, undef, (.pointer (some ⟨ga.block, ga.off + 2, none⟩)), undef], []⟩ (by intro cs b e; cases e) rfl (show 62 < 63 by decide) ?_ ?_
      · intro x hx
        simp [Op.operands] at hx
        rcases hx with rfl
        · exact (hf.pure (j := 15) (by decide) rfl).trans rfl
      go_wp2_with fail
      first | exact ⟨below_size, rfl⟩ | exact ⟨_, rfl, below_size, rfl⟩
    · intro a1 w1 hf
      obtain ⟨R, hR, _⟩ := hf.facts
      have hv62 : MixA.val a1 62 = .slice (some P2) l2 d2 := (hR 16 (by decide)).1
      clear hR
      refine MixA.hop ⟨#[undef, undef, undef, undef, undef, undef, undef, undef, undef, undef, undef, undef, undef, undef, undef, undef, undef, undef, undef, undef, undef, undef, undef, undef, undef, undef, undef, undef, undef, undef, undef, undef, undef, undef, undef, undef, undef, undef, undef, undef, undef, undef, undef, undef, undef, undef, undef, undef, undef, undef, undef, undef, undef, undef, undef, undef, undef, undef, undef, undef, undef, undef, (.slice (some P2) l2 d2), undef], []⟩ (by intro cs b e; cases e) rfl (show 63 < 64 by decide) ?_ ?_
      · intro x hx
        simp [Op.operands] at hx
        rcases hx with rfl
        · exact hv62.trans rfl
      go_wp2_with fail
      refine ⟨below_size.alloc (Nat.le_refl _) _, w1.heap.size, rfl, Nat.le_refl _, by simp, ?_⟩
      exact Blk.new w1 _ _
    · intro a1 w1 hf
      obtain ⟨R, hR, _⟩ := hf.facts
      have hv56 : MixA.val a1 56 = .agg #[.int .i64 0, .int .i64 0] := (hR 10 (by decide)).1
      have hv59 : MixA.val a1 59 = .slice (some P1) l1 d1 := (hR 13 (by decide)).1
      have hv62 : MixA.val a1 62 = .slice (some P2) l2 d2 := (hR 16 (by decide)).1
      obtain ⟨g63, hv63, _, _, h63⟩ : MixA.fR 37 1 [MixA.val a1 62] (MixA.val a1 63) (R 17).1 (R 17).2 w1 := (hR 17 (by decide)).1
      rw [hv62] at h63
      have E1 := Lib.hid (E3.out.trans ((EW w1 hf.below).mono E3.out.size))
      have HRV1 := Lib.hid (rdVC (its := [itC (some P2) l2 d2 (argI c a 2)]) (n := 1) h63 (by simp [hdV, itC]) rfl (fun i hi => by
        rw [List.mem_singleton] at hi; subst hi
        exact itC_ok (X2.out _ E1.out)))
      have R0 := Lib.hid (X1.out _ E1.out)
      clear hR h63
      refine MixA.hop ⟨#[undef, undef, undef, undef, undef, undef, undef, undef, undef, undef, undef, undef, undef, undef, undef, undef, undef, undef, undef, undef, undef, undef, undef, undef, undef, undef, undef, undef, undef, undef, undef, undef, undef, undef, undef, undef, undef, undef, undef, undef, undef, undef, undef, undef, undef, undef, undef, undef, undef, undef, undef, undef, undef, undef, undef, undef, (.agg #[.int .i64 0, .int .i64 0]), undef, undef, (.slice (some P1) l1 d1), undef, undef, undef, (.slice (some ⟨g63, 0, none⟩) 1 1), undef], []⟩ (by intro cs b e; cases e) rfl (show 64 < 65 by decide) ?_ ?_
      · intro x hx
        simp [Op.operands, Call.operands] at hx
        rcases hx with rfl | rfl | rfl | rfl
        · rfl
        · exact hv56.trans rfl
        · exact hv59.trans rfl
        · exact hv63.trans rfl
      go_wp2_with fail
      refine (appliedComb_c (0, 0) (some P1) l1 d1 (argI c a 1) (some ⟨g63, 0, none⟩) 1 1 (1 + l1 + l2) _ w1 R0.out HRV1.out (by omega) (by omega) (by simp [sumV, itC]; omega) (by simp [sumV, itC])).mono ?_
      rintro e w4 ⟨A4, c4, rfl, hw4, hc4, hb4⟩
      have L4 := Lib.hid (show Wr w4 w1.heap.size w4.heap.size A4 ((1 + l1 + l2) * 2) (([(0, 0)] ++ argI c a 1 ++ argI c a 2).flatMap enc2) by
        simpa [itC, List.flatMap_append, List.append_assoc] using hw4)
      have B4 := Lib.hid hb4
      clear hw4 hb4
      go_wp2_with fail
      exact ⟨B4.out, A4, c4, rfl, L4.out⟩
    · intro a1 w1 hf
      obtain ⟨R, hR, _⟩ := hf.facts
      obtain ⟨A64, c64, hv64, _⟩ : fQ (1 + l1 + l2) ([(0, 0)] ++ argI c a 1 ++ argI c a 2) [] (MixA.val a1 64) (R 18).1 (R 18).2 w1 := (hR 18 (by decide)).1
      clear hR
      refine MixA.hop ⟨#[undef, undef, undef, undef, undef, undef, undef, undef, undef, undef, undef, undef, undef, undef, undef, undef, undef, undef, undef, undef, undef, undef, undef, undef, undef, undef, undef, undef, undef, undef, undef, undef, undef, undef, undef, undef, undef, undef, undef, undef, undef, undef, undef, undef, undef, undef, undef, undef, undef, undef, undef, undef, undef, undef, undef, undef, undef, undef, undef, undef, undef, undef, undef, undef, (.slice A64 (1 + l1 + l2) c64), undef], []⟩ (by intro cs b e; cases e) rfl (show 65 < 66 by decide) ?_ ?_
      · intro x hx
        simp [Op.operands] at hx
        rcases hx with rfl
        · exact hv64.trans rfl
      go_wp2_with fail
      refine ⟨below_size.alloc (Nat.le_refl _) _, w1.heap.size, rfl, Nat.le_refl _, by simp, ?_⟩
      exact Blk.new w1 _ _
    · intro a1 w1 hf
      obtain ⟨R, hR, _⟩ := hf.facts
      have hv46 : MixA.val a1 46 = .agg #[.int .i64 0, .int .i64 0] := (hR 0 (by decide)).1
      obtain ⟨A55, c55, hv55, h55⟩ : fQ (1 + l0 + l2) ([(0, 0)] ++ argI c a 0 ++ argI c a 2) [] (MixA.val a1 55) (R 9).1 (R 9).2 w1 := (hR 9 (by decide)).1
      obtain ⟨A64, c64, hv64, h64⟩ : fQ (1 + l1 + l2) ([(0, 0)] ++ argI c a 1 ++ argI c a 2) [] (MixA.val a1 64) (R 18).1 (R 18).2 w1 := (hR 18 (by decide)).1
      obtain ⟨g65, hv65, _, _, h65⟩ : MixA.fR 37 1 [MixA.val a1 64] (MixA.val a1 65) (R 19).1 (R 19).2 w1 := (hR 19 (by decide)).1
      rw [hv64] at h65
      have HRV1 := Lib.hid (rdVC (its := [itC A64 (1 + l1 + l2) c64 ([(0, 0)] ++ argI c a 1 ++ argI c a 2)]) (n := 1) h65 (by simp [hdV, itC]) rfl (fun i hi => by
        rw [List.mem_singleton] at hi; subst hi
        exact itC_ok h64.rd))
      have R0 := Lib.hid (show Rd2 w1 A55 (1 + l0 + l2) ([(0, 0)] ++ argI c a 0 ++ argI c a 2) from h55.rd)
      clear hR h65 h64 h55
      refine MixA.hop ⟨#[undef, undef, undef, undef, undef, undef, undef, undef, undef, undef, undef, undef, undef, undef, undef, undef, undef, undef, undef, undef, undef, undef, undef, undef, undef, undef, undef, undef, undef, undef, undef, undef, undef, undef, undef, undef, undef, undef, undef, undef, undef, undef, undef, undef, undef, undef, (.agg #[.int .i64 0, .int .i64 0]), undef, undef, undef, undef, undef, undef, undef, undef, (.slice A55 (1 + l0 + l2) c55), undef, undef, undef, undef, undef, undef, undef, undef, undef, (.slice (some ⟨g65, 0, none⟩) 1 1), undef], []⟩ (by intro cs b e; cases e) rfl (show 66 < 67 by decide) ?_ ?_
      · intro x hx
        simp [Op.operands, Call.operands] at hx
        rcases hx with rfl | rfl | rfl | rfl
        · rfl
        · exact hv46.trans rfl
        · exact hv55.trans rfl
        · exact hv65.trans rfl
      go_wp2_with fail
      refine (appliedComb_c (0, 0) A55 (1 + l0 + l2) c55 ([(0, 0)] ++ argI c a 0 ++ argI c a 2) (some ⟨g65, 0, none⟩) 1 1 (1 + (1 + l0 + l2) + (1 + l1 + l2)) _ w1 R0.out HRV1.out (by omega) (by omega) (by simp [sumV, itC]; omega) (by simp [sumV, itC])).mono ?_
      rintro e w4 ⟨A4, c4, rfl, hw4, hc4, hb4⟩
      have L4 := Lib.hid (show Wr w4 w1.heap.size w4.heap.size A4 ((1 + (1 + l0 + l2) + (1 + l1 + l2)) * 2) ((byC c k 3).flatMap enc2) by
        rw [HB.out]
        simpa [itC, List.flatMap_append, List.append_assoc] using hw4)
      have B4 := Lib.hid hb4
      clear hw4 hb4
      go_wp2_with fail
      exact ⟨B4.out, A4, c4, rfl, L4.out⟩
    · intro a1 w1 hf
      refine MixA.hop ⟨#[undef, undef, undef, undef, undef, undef, undef, undef, undef, undef, undef, undef, (.int .i64 z), undef, undef, undef, undef, undef, undef, undef, undef, undef, undef, undef, undef, undef, undef, undef, undef, undef, undef, undef, undef, undef, undef, undef, undef, undef, undef, undef, undef, undef, undef, undef, undef, undef, undef, undef, undef, undef, undef, undef, undef, undef, undef, undef, undef, undef, undef, undef, undef, undef, undef, undef, undef, undef, undef, undef], []⟩ (by intro cs b e; cases e) rfl (show 67 < 68 by decide) ?_ ?_
      · intro x hx
        simp [Op.operands] at hx
        rcases hx with rfl
        · exact (hf.was (t := 12) (by decide) rfl).trans rfl
      go_wp2_with fail
      first | exact ⟨below_size, rfl⟩ | exact ⟨_, rfl, below_size, rfl⟩
    · intro a1 w1 hf
      obtain ⟨R, hR, _⟩ := hf.facts
      obtain ⟨A66, c66, hv66, _⟩ : fQ (1 + (1 + l0 + l2) + (1 + l1 + l2)) (byC c k 3) [] (MixA.val a1 66) (R 20).1 (R 20).2 w1 := (hR 20 (by decide)).1
      clear hR
      refine MixA.hop ⟨#[undef, undef, undef, undef, undef, undef, undef, undef, undef, undef, undef, undef, undef, undef, undef, undef, undef, undef, undef, undef, undef, undef, undef, undef, undef, undef, undef, undef, undef, undef, undef, undef, undef, undef, undef, undef, undef, undef, undef, undef, undef, undef, undef, undef, undef, undef, undef, undef, undef, undef, undef, undef, undef, undef, undef, undef, undef, undef, undef, undef, undef, undef, undef, undef, undef, undef, (.slice A66 (1 + (1 + l0 + l2) + (1 + l1 + l2)) c66)], []⟩ (by intro cs b e; cases e) rfl (show 4 < 67 by decide) ?_ ?_
      · intro x hx
        simp [Op.operands] at hx
        rcases hx with rfl
        · exact hv66.trans rfl
      go_wp2_with fail
      exact ⟨below_size, rfl⟩
    · intro a1 w1 hf
      obtain ⟨R, hR, _⟩ := hf.facts
      obtain ⟨A66, c66, hv66, h66⟩ : fQ (1 + (1 + l0 + l2) + (1 + l1 + l2)) (byC c k 3) [] (MixA.val a1 66) (R 20).1 (R 20).2 w1 := (hR 20 (by decide)).1
      have hv4 : MixA.val a1 4 = MixA.val a1 66 := (hR 22 (by decide)).1
      have hv67 : MixA.val a1 67 = .int .i64 z := (hR 21 (by decide)).1
      have E1 := Lib.hid (below_chain E3.out E3.out.size (below_of_drew hf.below))
      have L6 := Lib.hid (show Rd2 w1 A66 (1 + (1 + l0 + l2) + (1 + l1 + l2)) (byC c k 3) from h66.rd)
      rw [hf.act]
      clear hR h66 EW
      simp only [List.foldl_cons, List.foldl_nil, hv4, hv66, hv67]
      clear hv4 hv66 hv67 hf
      simp only [Act.put, List.setIfInBounds_toArray, List.set_cons_succ, List.set_cons_zero]
      go_wp2_with fail
      go_ret2
      exact ⟨_, _, _, rfl, L6.out, by omega, hzn, E1.out⟩
end Go.Proofs.YtebjpmmgdkepjaaGreatDoor
